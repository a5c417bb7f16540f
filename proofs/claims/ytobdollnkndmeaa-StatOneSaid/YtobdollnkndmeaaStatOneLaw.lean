/- 3 texts in one: each says ahead of itself what is proved, and its conditions. -/
import Derived.Test.YtobdollnkndmeaaDocApply
import Derived.Test.YtobdollnkndmeaaDocRead
import Derived.Test.YtobdollnkndmeaaEditLaw
import Derived.Test.YtobdollnkndmeaaStat
/- stat.Written, stat.Struck, walked; sums of runs. Conditions: the book is right. -/
namespace Go.Proofs.Ytobdollnkndmeaa
open Go.RowKit
set_option linter.unusedVariables false
def addAt (v : List Int) (x : Run) : List Int := v.set (x.1 - 1).toNat (v.getD (x.1 - 1).toNat 0 + x.2)
def writtenOf (rs : List Run) : List Int := rs.foldl addAt [0, 0, 0, 0, 0, 0, 0, 0]
theorem addAt_len (v : List Int) (x : Run) : (addAt v x).length = v.length := by simp [addAt]
theorem writtenOf_len (rs : List Run) : (writtenOf rs).length = 8 := by
  have key : ∀ (rs : List Run) (v : List Int), (rs.foldl addAt v).length = v.length := by
    intro rs
    induction rs with
    | nil => intro v; rfl
    | cons x rs ih => intro v; rw [List.foldl_cons, ih, addAt_len]
  exact key rs _
theorem writtenOf_take {rs : List Run} {k : Nat} (h : k < rs.length) : writtenOf (rs.take (k + 1)) = addAt (writtenOf (rs.take k)) rs[k] := by
  unfold writtenOf
  rw [List.take_succ_eq_append_getElem h, List.foldl_append]
  rfl
theorem addAt_sum {v : List Int} {x : Run} (h0 : 1 ≤ x.1) (h1 : x.1 ≤ v.length) : (addAt v x).sum = v.sum + x.2 := by
  unfold addAt
  obtain ⟨k, hk⟩ : ∃ k : Nat, x.1 = (k : Int) + 1 := ⟨(x.1 - 1).toNat, by omega⟩
  have e : (x.1 - 1).toNat = k := by omega
  rw [e]
  have hkl : k < v.length := by omega
  clear h0 h1 e hk
  generalize x.2 = n
  induction v generalizing k with
  | nil => simp at hkl
  | cons y v ih =>
    cases k with
    | zero => simp; omega
    | succ k =>
      have := ih k (by simpa using hkl)
      simp only [List.set_cons_succ, List.sum_cons, List.getD_cons_succ]
      omega
theorem runsOf_who {l : List LLeaf} (hb : BookOk l) : ∀ x ∈ runsOf l, 1 ≤ x.1 ∧ x.1 ≤ 8 := by
  have key : ∀ (l : List LLeaf) (out : List Run), (∀ x ∈ l, placeErr x.place = 0) → (∀ x ∈ out, 1 ≤ x.1 ∧ x.1 ≤ 8) → ∀ x ∈ l.foldl (fun out x => if seenB x = true then runAdd out (whoP x.place) else out) out, 1 ≤ x.1 ∧ x.1 ≤ 8 := by
    intro l
    induction l with
    | nil => intro out _ h x hx; exact h x hx
    | cons y l ih =>
      intro out hp h x hx
      rw [List.foldl_cons] at hx
      obtain ⟨_, w1, w2⟩ := whoP_place (hp y (by simp))
      refine ih _ (fun z hz => hp z (by simp [hz])) (fun z hz => ?_) x hx
      split at hz
      · rcases runAdd_cases out (whoP y.place) with ⟨_, e⟩ | ⟨k, hk, _, ⟨_, e⟩ | ⟨_, e⟩⟩
        · rw [e] at hz
          rcases List.mem_append.1 hz with hz | hz
          · exact h z hz
          · simp at hz; subst hz; exact ⟨w1, w2⟩
        · rw [e] at hz
          rcases List.mem_or_eq_of_mem_set hz with hz | rfl
          · exact h z hz
          · have := h _ (List.getElem_mem hk); exact this
        · rw [e] at hz
          rcases List.mem_append.1 hz with hz | hz
          · exact h z hz
          · simp at hz; subst hz; exact ⟨w1, w2⟩
      · exact h z hz
  exact key l [] (fun x hx => (hb.leafs x hx).place) (by simp)
theorem written_sum {rs : List Run} (h : ∀ x ∈ rs, 1 ≤ x.1 ∧ x.1 ≤ 8) : (writtenOf rs).sum = runSum rs := by
  have key : ∀ (rs : List Run) (v : List Int), v.length = 8 → (∀ x ∈ rs, 1 ≤ x.1 ∧ x.1 ≤ 8) → (rs.foldl addAt v).sum = v.sum + runSum rs := by
    intro rs
    induction rs with
    | nil => intro v _ _; simp [runSum]
    | cons x rs ih =>
      intro v hv h
      obtain ⟨h0, h1⟩ := h x (by simp)
      rw [List.foldl_cons, ih _ (by rw [addAt_len]; exact hv) (fun y hy => h y (by simp [hy])), addAt_sum h0 (by omega)]
      simp [runSum]
      omega
  have := key rs [0, 0, 0, 0, 0, 0, 0, 0] rfl h
  simpa [writtenOf] using this
/-- Runs one behind the other are of two. -/
def Apart : List Run → Prop
  | [] => True
  | [_] => True
  | x :: y :: l => x.1 ≠ y.1 ∧ Apart (y :: l)
def ApartK (l : List Run) : Prop := ∀ i (h : i + 1 < l.length), l[i].1 ≠ l[i + 1].1
theorem runs_apart (l : List LLeaf) : ApartK (runsOf l) := by
  have key : ∀ (l : List LLeaf) (out : List Run), ApartK out → ApartK (l.foldl (fun out x => if seenB x = true then runAdd out (whoP x.place) else out) out) := by
    intro l
    induction l with
    | nil => intro out h; exact h
    | cons y l ih =>
      intro out h
      rw [List.foldl_cons]
      refine ih _ ?_
      split
      · rcases runAdd_cases out (whoP y.place) with ⟨e0, e⟩ | ⟨k, hk, hk2, ⟨e1, e⟩ | ⟨e1, e⟩⟩
        · rw [e]; intro i hi; simp at hi; omega
        · rw [e]
          intro i hi
          rw [List.length_set] at hi
          have := h i hi
          rw [List.getElem_set, List.getElem_set]
          by_cases h1 : k = i
          · omega
          · rw [if_neg h1]
            by_cases h2 : k = i + 1
            · subst h2; rw [if_pos rfl]; exact this
            · rw [if_neg h2]; exact this
        · rw [e]
          intro i hi
          simp only [List.length_append, List.length_cons, List.length_nil] at hi
          by_cases h2 : i + 1 < out.length
          · rw [List.getElem_append_left (by omega), List.getElem_append_left h2]
            exact h i h2
          · have hik : i = k := by omega
            subst hik
            rw [List.getElem_append_left hk, List.getElem_append_right (by omega)]
            simp only [hk2, Nat.sub_self, List.getElem_cons_zero]
            exact e1
      · exact h
  exact key l [] (by intro i h; simp at h)
def WrittenLoop (w : World) (rs : List Run) (g : Nat) (V : Option Addr) (cv : Nat) (i : Value) (wr : World) : Prop :=
  ∃ k : Nat, k ≤ rs.length ∧ i = .int .i64 k ∧ Hid (Own wr w.heap.size 3 1 (some ⟨g, 0, none⟩) 8 8 (ints (writtenOf (rs.take k)))) ∧ Hid (Own wr w.heap.size 46 2 V rs.length cv (rcells rs)) ∧ Hid (Below w.heap.size w wr)
def WrittenPost (w : World) (l : List LLeaf) (e : Ending) (w' : World) : Prop :=
  ∃ V c, e = .returned (.tuple #[.slice V 8 c, .nilIface]) ∧ Own w' w.heap.size 3 1 V 8 c (ints (writtenOf (runsOf l))) ∧ Below w.heap.size w w'
theorem written_le {rs : List Run} (h : ∀ x ∈ rs, 1 ≤ x.2 ∧ x.2 ≤ 300) (hl : rs.length ≤ 300) : ∀ n ∈ writtenOf rs, 0 ≤ n ∧ n ≤ 90000 := by
  have key : ∀ (rs : List Run) (v : List Int) (m : Nat), (∀ x ∈ rs, 1 ≤ x.2 ∧ x.2 ≤ 300) → (∀ n ∈ v, 0 ≤ n ∧ n ≤ (m : Int) * 300) → ∀ n ∈ rs.foldl addAt v, 0 ≤ n ∧ n ≤ ((m + rs.length : Nat) : Int) * 300 := by
    intro rs
    induction rs with
    | nil => intro v m _ h n hn; simpa using h n hn
    | cons x rs ih =>
      intro v m h hv n hn
      rw [List.foldl_cons] at hn
      have hx := h x (by simp)
      have := ih (addAt v x) (m + 1) (fun y hy => h y (by simp [hy])) (fun z hz => ?_) n hn
      · simp only [List.length_cons]
        have e : ((m + 1 + rs.length : Nat) : Int) = ((m + (rs.length + 1) : Nat) : Int) := by omega
        rw [e] at this
        exact this
      · unfold addAt at hz
        rcases List.mem_or_eq_of_mem_set hz with hz | rfl
        · have := hv z hz; omega
        · have hd : 0 ≤ v.getD (x.1 - 1).toNat 0 ∧ v.getD (x.1 - 1).toNat 0 ≤ (m : Int) * 300 := by
            rcases Nat.lt_or_ge (x.1 - 1).toNat v.length with h1 | h1
            · have := hv _ (List.getElem_mem h1)
              rw [List.getD, List.getElem?_eq_getElem h1]; exact this
            · rw [List.getD, List.getElem?_eq_none h1]; simp; omega
          omega
  intro n hn
  have := key rs [0, 0, 0, 0, 0, 0, 0, 0] 0 h (by simp) n hn
  omega
set_option maxRecDepth 100000 in
set_option maxHeartbeats 8000000 in
theorem written_any (w : World) (A : Option Addr) (c : Nat) (l : List LLeaf) (h : Reads w w.heap.size 3 A l.length (lcells l)) (hb : BookOk l) :
    Calls Try.prog 10 #[.slice A l.length c] w (WrittenPost w l) := by
  have HRN := Lib.hid (runs_any w A c l h hb)
  have hrl := runsOf_len l
  have hfew := hb.few
  have HW := Lib.hid (runsOf_who hb)
  have HL := Lib.hid (run_le l)
  have hmk : ∀ W : World, (Instr.makeSlice 23 (.int .i64 8) (.int .i64 8)).run Try.prog W = .ok (.slice (some ⟨W.heap.size, 0, none⟩) 8 8) (W.alloc (.cells zeros8 3)) := fun W => by
    have e : madeCells #[Value.int .i64 0] 8 = zeros8 := by apply Array.ext'; simp [madeCells, zeros8, Nat.mod_one, List.range, List.range.loop]
    rw [← e]
    exact run_make_row' (P := Try.prog) 23 3 (.int .i64 0) 8 Try.underlying23 (by kernel_rfl) rfl .i64 .i64 8 (by omega) (by omega) W
  have HZ : Hid (∀ (W : World) (N : Nat), N ≤ W.heap.size → Own (W.alloc (.cells zeros8 3)) N 3 1 (some ⟨W.heap.size, 0, none⟩) 8 8 (ints [0, 0, 0, 0, 0, 0, 0, 0])) := fun W N hN =>
    ⟨rfl, .inr ⟨W.heap.size, 8, zeros8, rfl, hN, heap_alloc_new W _, Nat.le_refl _, by decide, rfl, rfl⟩⟩
  clear h hb
  generalize zeros8 = z8 at *
  generalize hrs : runsOf l = rs at *
  have HRS := Lib.hid hrs
  have HRN : Hid (Calls Try.prog 14 #[.slice A l.length c] w fun e w' => ∃ V c, e = .returned (.tuple #[.slice V rs.length c, .nilIface]) ∧ Own w' w.heap.size 46 2 V rs.length c (rcells rs) ∧ Below w.heap.size w w') := HRN.out.mono fun e w' hh => by
    rw [← hrs]; exact hh
  clear hrs
  go_enter Try.func10, Try.ntmps10
  go_wp2_with fail
  refine HRN.out.mono ?_
  rintro e w1 ⟨V, cv, rfl, hO, hb1⟩
  have HO1 := Lib.hid hO
  have HB1 := Lib.hid hb1
  have HM := hmk w1
  have HZ1 := Lib.hid (HZ.out w1 w.heap.size HB1.out.size)
  clear hO hb1 hmk HZ
  go_wp2_with fail
  go_loopw [20] (fun i wr => WrittenLoop w rs w1.heap.size V cv i wr) (fun i _ => rs.length - (intOf i).toNat)
  case atStart => exact ⟨0, Nat.zero_le _, rfl, HZ1.out, HO1.out.alloc _, HB1.out.alloc HB1.out.size _⟩
  case round =>
    obtain ⟨k, hk, rfl, HO, HR, HB⟩ := hrel
    have k0 : (0 : Int) ≤ (k : Int) := by omega
    by_cases hlt : k < rs.length
    · have k1 : (k : Int) < (rs.length : Int) := by omega
      obtain ⟨g, rfl, hg1, hg2⟩ := HR.out.head (by omega)
      have a0 : wr.cell? ⟨g, k * 2, none⟩ = some (.int .i64 rs[k].1) := by rw [HR.out.cellAt (by omega), show k * 2 = k * 2 + 0 from rfl, rcells_at rs k 0 hlt (by omega)]; rfl
      have a1 : wr.cell? ⟨g, k * 2 + 1, none⟩ = some (.int .i64 rs[k].2) := by rw [HR.out.cellAt (by omega), rcells_at rs k 1 hlt (by omega)]; rfl
      have hxw := HW.out _ (List.getElem_mem hlt)
      have hxc := HL.out _ (List.getElem_mem hlt)
      have hvl := writtenOf_len (rs.take k)
      have hvb := written_le (rs := rs.take k) (fun x hx => by have := HL.out x (List.mem_of_mem_take hx); omega) (by rw [List.length_take]; omega)
      have HT := Lib.hid (writtenOf_take hlt)
      generalize hv : writtenOf (rs.take k) = v at *
      obtain ⟨j, hj⟩ : ∃ j : Nat, rs[k].1 = (j : Int) + 1 := ⟨(rs[k].1 - 1).toNat, by omega⟩
      generalize hx : rs[k] = x at *
      obtain ⟨who, cnt⟩ := x
      simp only at hj hxw hxc a0 a1
      subst hj
      have hj8 : j < 8 := by omega
      have hjv : j < v.length := by omega
      have hvj := hvb _ (List.getElem_mem hjv)
      have c0 : wr.cell? ⟨w1.heap.size, j, none⟩ = some (.int .i64 v[j]) := by rw [HO.out.cellAt (by omega), ints_at hjv]
      have f0 := HO.out.frozenAt j
      have HT' : Hid (writtenOf (rs.take (k + 1)) = v.set j (v[j] + cnt)) := by
        show _ = _
        rw [HT.out]
        unfold addAt
        simp only
        rw [show ((j : Int) + 1 - 1).toNat = j by omega, List.getD, List.getElem?_eq_getElem hjv]
        rfl
      have HST := Lib.hid (((HO.out.store hj8 (.int .i64 (v[j] + cnt))).alloc (.cells #[.int .i64 ((j : Int) + 1), .int .i64 cnt] 46)).drew)
      rw [ints_set] at HST
      have HRX := Lib.hid (((HR.out.only ((Only.refl [w1.heap.size] _).setCell (p := ⟨w1.heap.size, j, none⟩) (.inl (by simp)) (.int .i64 (v[j] + cnt))) (fun g' hg' hm => by
        simp at hm; subst hm
        rcases HO.out.2 with ⟨h2, _⟩ | ⟨g2, cap, cur, he, _, hh, _⟩
        · cases h2
        · injection he with he _ _
          injection he with he
          injection he with he
          subst he
          exact HR.out.blk_ne (t := 3) (cs := cur) hh (by decide) hg')).alloc (.cells #[.int .i64 ((j : Int) + 1), .int .i64 cnt] 46)).drew)
      have hw1 := HB1.out.size
      have HBX := Lib.hid ((((HB.out.setCell (p := ⟨w1.heap.size, j, none⟩) hw1 (.int .i64 (v[j] + cnt)))).alloc (HB.out.setCell (p := ⟨w1.heap.size, j, none⟩) hw1 (.int .i64 (v[j] + cnt))).size (.cells #[.int .i64 ((j : Int) + 1), .int .i64 cnt] 46)).drew)
      have hlt1 : w1.heap.size < wr.heap.size := (HO.out.lt w1.heap.size (by simp [ob])).2
      have c1 : (wr.alloc (.cells #[.int .i64 ((j : Int) + 1), .int .i64 cnt] 46)).cell? ⟨w1.heap.size, j, none⟩ = some (.int .i64 v[j]) := (World.cell?_alloc_lt wr _ _ hlt1).trans c0
      have f1 := (HO.out.alloc (.cells #[.int .i64 ((j : Int) + 1), .int .i64 cnt] 46)).frozenAt j
      have q1 : IntKind.i64.wrap ((j : Int) + 1 - 1) = (j : Int) := by rw [IntWalk.i64_in _ (by omega)]; omega
      have q2 : IntKind.i64.wrap (v[j] + cnt) = v[j] + cnt := IntWalk.i64_in _ (by omega)
      have j0 : (0 : Int) ≤ (j : Int) := by omega
      have j1 : (j : Int) < 8 := by omega
      clear hx hxw hxc hvl hvb HT HO HR hj8
      generalize v[j] = u at *
      go_wp2_with fail
      go_region
      all_goals
        go_wp2_with fail
        go_roundw
        case rel => exact ⟨k + 1, by omega, by go_num, by rw [HT'.out]; exact HST, HRX, HBX⟩
        case measure => simp [intOf]; omega
    · have k1 : ¬ (k : Int) < (rs.length : Int) := by omega
      obtain rfl : k = rs.length := by omega
      rw [List.take_length] at HO
      have HO' := Lib.hid HO.out
      go_wp2_with fail
      go_ret2
      exact ⟨_, 8, rfl, by rw [HRS.out]; exact HO'.out, HB.out⟩
end Go.Proofs.Ytobdollnkndmeaa
/- When what is typed goes, and what may be wrong with it: plain. Conditions: none. -/
namespace Go.Proofs.Ytobdollnkndmeaa
open Go.RowKit
set_option linter.unusedVariables false
theorem typed_goes (who : Int) (right : ByteArray) (hw0 : 1 ≤ who) (hw1 : who ≤ 8) : ∀ (t : List UInt8) (left : ByteArray) (n : Int) (d : LDoc) (a b : List LLeaf), d.Ok → d.book = a ++ b → Gap a b left right → nOf d.known ⟨who, 0⟩ = n → 0 ≤ n → n + t.length ≤ 9999 → d.ops.length + t.length ≤ 400 → d.book.length + t.length ≤ 300 →
    t.any badC = false → TypedOk who right t left → d.doE (typedOps who right t left n) = 0
  | [], left, n, d, a, b => fun hk hb hg hn h0 h1 h2 h3 h4 ht => rfl
  | c :: t, left, n, d, a, b => fun hk hb hg hn h0 h1 h2 h3 h4 ht => by
    obtain ⟨t1, t2⟩ := ht
    have hgood := good_of t1
    rw [List.any_cons, Bool.or_eq_false_iff] at h4
    obtain ⟨h41, h42⟩ := h4
    have hlet : letterB (c.toNat : Int) = true := by unfold badC at h41; simpa using h41
    simp only [List.length_cons] at h1 h2 h3
    rw [typedOps]
    generalize hp : strOf (betweenRes left right who) = p at *
    have hn' : nOf d.known ⟨who, n + 1⟩ = n := (nOf_who _ rfl).trans hn
    have hdot : dotErr ⟨who, n + 1⟩ = 0 := by unfold dotErr; rw [if_pos]; simp only; omega
    have hop : opErr ⟨⟨who, n + 1⟩, 1, p, c.toNat, []⟩ = 0 := by
      unfold opErr
      rw [if_neg (by simp only; omega), if_neg (by simp), if_neg (by have := hgood.check; simp only; omega), if_neg (by rintro ⟨_, h⟩; simp only at h; rw [hlet] at h; cases h), if_neg (by simp), if_neg (by simp), if_neg (by simp)]
      rfl
    obtain ⟨g1, g2⟩ := hg.at_ hgood
    have hr : Rising (a ++ b) := by rw [← hb]; exact hk.book.rising
    have hno := gap_none hr g1 g2
    have hwr : writeErr d.book p c.toNat = 0 := write_zero hk.book hgood.check hlet (.inr (by omega)) (.inl (by rw [hb, no_old hno]))
    have hte : d.turnE ⟨⟨who, n + 1⟩, 1, p, c.toNat, []⟩ = 0 := by unfold LDoc.turnE; rw [if_pos rfl]; exact hwr
    have hh : hasRes d.known ⟨who, n + 1⟩ = false := by
      unfold hasRes
      rw [Bool.and_eq_false_iff]
      exact .inr (decide_eq_false (by rw [hn']; show ¬ (n + 1 ≤ n); omega))
    have ha : addErr d.known ⟨who, n + 1⟩ = 0 := by
      unfold addErr
      have hv := LDoc.vd_zero hk hop
      simp only at hv
      rw [if_neg (by omega), if_neg (by rw [hn']; simp only; omega), if_neg (by rw [hn']; simp only; omega)]
    obtain ⟨q1, q2, q3⟩ := LDoc.apply_good hk hop hh ha (by omega) hte
    have hturn : d.turn ⟨⟨who, n + 1⟩, 1, p, c.toNat, []⟩ = { d with book := a ++ ⟨p, c.toNat, false⟩ :: b } := by
      unfold LDoc.turn
      rw [if_pos rfl, if_pos hwr, write_upd, hb, no_old hno]
      rw [upd_gap hr g1 g2]
      rfl
    have hk2 := LDoc.apply_ok hk ⟨⟨who, n + 1⟩, 1, p, c.toNat, []⟩
    unfold LDoc.doE
    rw [if_neg (by omega)]
    rw [q3, hturn] at hk2 ⊢
    obtain ⟨a1, a2, a3⟩ := add_ok ha
    have hn2 : nOf (addRes d.known ⟨who, n + 1⟩) ⟨who, 0⟩ = n + 1 := by
      rw [nOf_who _ (show (⟨who, 0⟩ : LDot).who = (⟨who, n + 1⟩ : LDot).who from rfl), nOf_add a1 a2 a2, if_pos rfl]
    refine typed_goes who right hw0 hw1 t p (n + 1) _ (a ++ [⟨p, c.toNat, false⟩]) b hk2 (by simp) (hg.next hgood _ _) hn2 (by omega) (by omega) ?_ ?_ h42 t2
    · simp; omega
    · rw [hb] at h3; simp at h3 ⊢; omega
/-- Two between which one may be. -/
def Between (a b : ByteArray) : Prop := (a.size = 0 ∨ placeErr a = 0) ∧ (b.size = 0 ∨ placeErr b = 0) ∧ (a.size ≠ 0 → b.size ≠ 0 → lt a b = true)
theorem between_ready {a b : ByteArray} (h : Between a b) : readyErr a b = 0 := by
  obtain ⟨h1, h2, h3⟩ := h
  unfold readyErr
  rw [if_neg, if_neg, if_neg]
  · rintro ⟨x, y, z⟩
    have := h3 x y
    unfold lt at this
    rw [this] at z; cases z
  · rintro ⟨x, y⟩
    rcases h2 with h | h
    · exact x h
    · exact y h
  · rintro ⟨x, y⟩
    rcases h1 with h | h
    · exact x h
    · exact y h
theorem between_eight {a b : ByteArray} (h : Between a b) {who : Int} (hw0 : 1 ≤ who) (hw1 : who ≤ 8) : betweenErr a b who = 0 ∨ betweenErr a b who = 8 := by
  unfold betweenErr roomErr
  rw [if_neg (by omega), if_neg (by have := between_ready h; omega)]
  split
  · exact .inr rfl
  · exact .inl rfl
theorem typed_eight (right : ByteArray) : ∀ (t : List UInt8) (left : ByteArray) (m : LMk), 1 ≤ m.who → m.who ≤ 8 → Between left right → (LMk.typed right t left m).2 = 0 ∨ (LMk.typed right t left m).2 = 8
  | [], left, m => fun _ _ _ => .inl rfl
  | c :: t, left, m => fun h0 h1 hb => by
    unfold LMk.typed
    by_cases he : betweenErr left right m.who ≠ 0
    · rw [if_pos he]
      rcases between_eight hb h0 h1 with h | h
      · exact absurd h he
      · exact .inr h
    · rw [if_neg he]
      have hgood := good_of (show betweenErr left right m.who = 0 by omega)
      refine typed_eight right t _ _ h0 h1 ⟨.inr hgood.check, hb.2.1, fun _ hr => (good_lt hgood).2 hr⟩
theorem ins_between {l : List LLeaf} (hb : BookOk l) {off : Int} (h0 : 0 ≤ off) (h1 : off ≤ ((textOf l).size : Int)) : Between (leftOf l off) (rightOf l (idxOf l off)) := by
  obtain ⟨g1, g2, g3⟩ := ins_gap hb h0 h1
  have hl : (leftOf l off).size = 0 ∨ ∃ n, ∃ hn : n < l.length, leftOf l off = l[n].place ∧ idxOf l off = n + 1 := by
    by_cases hp : 0 < off
    · obtain ⟨o, rfl⟩ : ∃ o : Nat, off = (o : Int) + 1 := ⟨(off - 1).toNat, by omega⟩
      have hsz : (textOf l).size = (textL l).length := strOf_size _
      obtain ⟨n, hn, e1, e2, e3⟩ := nth_seen l 0 o (by omega)
      have en : (nthFrom 0 l ((o : Int) + 1 - 1)).toNat = n := by rw [show (o : Int) + 1 - 1 = o by omega, e1]; omega
      exact .inr ⟨n, hn, by unfold leftOf; rw [if_pos hp, en]; simp [List.getD, hn], by unfold idxOf; rw [if_pos hp, en]⟩
    · exact .inl (by unfold leftOf; rw [if_neg hp]; rfl)
  have hr : (rightOf l (idxOf l off)).size = 0 ∨ ∃ h : idxOf l off < l.length, rightOf l (idxOf l off) = l[idxOf l off].place := by
    by_cases hi : idxOf l off < l.length
    · exact .inr ⟨hi, by unfold rightOf; rw [if_pos hi]; simp [List.getD, hi]⟩
    · exact .inl (by unfold rightOf; rw [if_neg hi]; rfl)
  refine ⟨?_, ?_, fun x y => ?_⟩
  · rcases hl with h | ⟨n, hn, h, _⟩
    · exact .inl h
    · rw [h]; exact .inr (hb.leafs _ (List.getElem_mem hn)).place
  · rcases hr with h | ⟨hi, h⟩
    · exact .inl h
    · rw [h]; exact .inr (hb.leafs _ (List.getElem_mem hi)).place
  · rcases hl with h | ⟨n, hn, h, hin⟩
    · exact absurd h x
    · rcases hr with h' | ⟨hi, h'⟩
      · exact absurd h' y
      · rw [h, h']
        exact rising_lt hb.rising n _ hn hi (by omega)
namespace LDoc
/-- What may be wrong with an insert. -/
theorem insE_cases {d : LDoc} (hk : d.Ok) (who off : Int) (text : ByteArray) : whoE who ≠ 0 ∧ d.insE who off text = 1 ∨ whoE who = 0 ∧ insErr d.book off text ≠ 0 ∧ d.insE who off text = insErr d.book off text ∨
    whoE who = 0 ∧ insErr d.book off text = 0 ∧ (d.insE who off text = 0 ∨ d.insE who off text = 8) := by
  by_cases hw : whoE who = 0
  · by_cases hi : insErr d.book off text = 0
    · refine .inr (.inr ⟨hw, hi, ?_⟩)
      obtain ⟨i1, i2, i3, i4⟩ := insErr_zero hi
      obtain ⟨_, w0, w1⟩ := who_dot hw
      unfold insE LMk.ins
      rw [if_neg (by omega), if_neg (by omega)]
      exact typed_eight _ _ _ _ w0 w1 (ins_between hk.book i3 i4)
    · refine .inr (.inl ⟨hw, hi, ?_⟩)
      unfold insE LMk.ins
      rw [if_neg (by omega), if_pos hi]
  · exact .inl ⟨hw, if_pos hw⟩
/-- What is typed goes, where there is room. -/
theorem ins_goes {d : LDoc} (hk : d.Ok) {who off : Int} {text : ByteArray} (h : d.insE who off text = 0) (h1 : nOf d.known ⟨who, 0⟩ + text.size ≤ 9999) (h0 : 0 ≤ nOf d.known ⟨who, 0⟩) (h2 : d.ops.length + text.size ≤ 400) (h3 : d.book.length + text.size ≤ 300) : d.doE (d.insR who off text) = 0 := by
  obtain ⟨a1, a2, a3, a4⟩ := ins_ok h
  obtain ⟨i1, i2, i3, i4⟩ := insErr_zero a2
  obtain ⟨_, w0, w1⟩ := who_dot a1
  obtain ⟨g1, g2, g3⟩ := ins_gap hk.book i3 i4
  rw [a3]
  exact typed_goes who _ w0 w1 _ _ _ d _ _ hk (List.take_append_drop _ _).symm g3 rfl h0 (by rw [toList_len]; omega) (by rw [toList_len]; omega) (by rw [toList_len]; omega) i2 a4
end LDoc
end Go.Proofs.Ytobdollnkndmeaa
/- A book of one author is one run: plain. Conditions: none. -/
namespace Go.Proofs.Ytobdollnkndmeaa
open Go.RowKit
set_option linter.unusedVariables false
theorem runs_one {who : Int} {l : List LLeaf} (h : ∀ x ∈ l, seenB x = true ∧ whoP x.place = who) : runsOf l = if l.length = 0 then [] else [(who, (l.length : Int))] := by
  have key : ∀ (l : List LLeaf) (n : Int), (∀ x ∈ l, seenB x = true ∧ whoP x.place = who) → l.foldl (fun out x => if seenB x = true then runAdd out (whoP x.place) else out) [(who, n)] = [(who, n + l.length)] := by
    intro l
    induction l with
    | nil => intro n _; simp
    | cons x l ih =>
      intro n h
      obtain ⟨h1, h2⟩ := h x (by simp)
      rw [List.foldl_cons, if_pos h1, h2]
      have e : runAdd [(who, n)] who = [(who, n + 1)] := by simp [runAdd]
      rw [e, ih _ (fun y hy => h y (by simp [hy]))]
      simp; omega
  cases l with
  | nil => rfl
  | cons x l =>
    obtain ⟨h1, h2⟩ := h x (by simp)
    unfold runsOf
    rw [List.foldl_cons, if_pos h1, h2]
    have e : runAdd [] who = [(who, 1)] := rfl
    rw [e, key l 1 (fun y hy => h y (by simp [hy])), if_neg (by simp)]
    simp; omega
theorem typed_who (who : Int) (right : ByteArray) : ∀ (t : List UInt8) (left : ByteArray) (n : Int), TypedOk who right t left → t.any badC = false → ∀ x ∈ (typedOps who right t left n).map leafOf, seenB x = true ∧ whoP x.place = who
  | [], _, _ => fun _ _ x hx => by simp [typedOps] at hx
  | c :: t, left, n => fun h hb x hx => by
    obtain ⟨t1, t2⟩ := h
    rw [List.any_cons, Bool.or_eq_false_iff] at hb
    have hlet : letterB (c.toNat : Int) = true := by have := hb.1; unfold badC at this; simpa using this
    have h2 := letterB_range hlet
    have hgood := good_of t1
    rw [typedOps, List.map_cons] at hx
    rcases List.mem_cons.1 hx with rfl | hx
    · refine ⟨by simp [seenB, leafOf]; omega, ?_⟩
      have h3 := (whoP_place hgood.check).1
      have h4 := hgood.who
      show whoP (strOf (betweenRes left right who)) = who
      omega
    · exact typed_who who right t _ _ t2 hb.2 x hx
/-- What stands in a new document in which one author typed. -/
theorem one_plain {who : Int} {text : ByteArray} (h : LDoc.new.insE who 0 text = 0) (hd : LDoc.new.doE (LDoc.new.insR who 0 text) = 0) :
    1 ≤ who ∧ who ≤ 8 ∧ text.size ≤ 200 ∧ (LDoc.new.doR (LDoc.new.insR who 0 text)).book.length = text.size ∧ (∀ x ∈ (LDoc.new.doR (LDoc.new.insR who 0 text)).book, seenB x = true) ∧
      runsOf (LDoc.new.doR (LDoc.new.insR who 0 text)).book = (if text.size = 0 then [] else [(who, (text.size : Int))]) := by
  obtain ⟨a1, a2, a3, a4⟩ := LDoc.ins_ok h
  obtain ⟨i1, i2, i3, i4⟩ := insErr_zero a2
  obtain ⟨_, w0, w1⟩ := who_dot a1
  obtain ⟨a, b, e1, _, e3, _⟩ := LDoc.ins_does LDoc.new_ok h hd
  have eab : a = [] ∧ b = [] := by
    have : LDoc.new.book = [] := rfl
    rw [this] at e1
    exact List.append_eq_nil_iff.1 e1.symm
  obtain ⟨rfl, rfl⟩ := eab
  have e4 : (LDoc.new.doR (LDoc.new.insR who 0 text)).book = (LDoc.new.insR who 0 text).map leafOf := by rw [e3]; simp
  have hall := typed_who who _ text.toList _ (nOf LDoc.new.known ⟨who, 0⟩) a4 i2
  rw [← a3, ← e4] at hall
  have hlen : (LDoc.new.doR (LDoc.new.insR who 0 text)).book.length = text.size := by rw [e4, List.length_map, a3, typedOps_len, toList_len]
  refine ⟨w0, w1, i1, hlen, fun x hx => (hall x hx).1, ?_⟩
  rw [runs_one hall, hlen]
theorem written_one {who n : Int} (h0 : 1 ≤ who) (h1 : who ≤ 8) : ∃ k : Nat, who = (k : Int) + 1 ∧ ∃ hk : k < (writtenOf [(who, n)]).length, (writtenOf [(who, n)])[k] = n := by
  obtain ⟨k, rfl⟩ : ∃ k : Nat, who = (k : Int) + 1 := ⟨(who - 1).toNat, by omega⟩
  have hk : k < (writtenOf [((k : Int) + 1, n)]).length := by rw [writtenOf_len]; omega
  refine ⟨k, rfl, hk, ?_⟩
  rcases (show k = 0 ∨ k = 1 ∨ k = 2 ∨ k = 3 ∨ k = 4 ∨ k = 5 ∨ k = 6 ∨ k = 7 by omega) with rfl | rfl | rfl | rfl | rfl | rfl | rfl | rfl <;> simp [writtenOf, addAt]
theorem written_none (k : Nat) (hk : k < (writtenOf []).length) : (writtenOf [])[k] = 0 := by
  rw [writtenOf_len] at hk
  rcases (show k = 0 ∨ k = 1 ∨ k = 2 ∨ k = 3 ∨ k = 4 ∨ k = 5 ∨ k = 6 ∨ k = 7 by omega) with rfl | rfl | rfl | rfl | rfl | rfl | rfl | rfl <;> rfl
end Go.Proofs.Ytobdollnkndmeaa

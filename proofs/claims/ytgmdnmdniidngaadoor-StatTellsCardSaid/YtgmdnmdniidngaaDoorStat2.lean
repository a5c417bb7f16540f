/- stat.Written, stat.Struck, walked; sums of runs. Conditions: the book is right. -/
import Derived.Test.YtgmdnmdniidngaaDoorStat
namespace Go.Proofs.YtgmdnmdniidngaaDoor
open Go.RowKit
set_option linter.unusedVariables false
def addAt (v : List Int) (x : Run) : List Int := v.set (x.1 - 1).toNat (v.getD (x.1 - 1).toNat 0 + x.2)
def writtenOf (rs : List Run) : List Int := rs.foldl addAt [0, 0, 0, 0, 0, 0, 0, 0]
theorem addAt_len (v : List Int) (x : Run) : (addAt v x).length = v.length := by simp [addAt]
theorem writtenOf_len (rs : List Run) : (writtenOf rs).length = 8 := by
  have key : ∀ (rs : List Run) (v : List Int), (rs.foldl addAt v).length = v.length := by
    intro rs
    induction rs with
    | nil => intro v; rfl
    | cons x rs ih => intro v; rw [List.foldl_cons, ih, addAt_len]
  exact key rs _
theorem writtenOf_take {rs : List Run} {k : Nat} (h : k < rs.length) : writtenOf (rs.take (k + 1)) = addAt (writtenOf (rs.take k)) rs[k] := by
  unfold writtenOf
  rw [List.take_succ_eq_append_getElem h, List.foldl_append]
  rfl
theorem addAt_sum {v : List Int} {x : Run} (h0 : 1 ≤ x.1) (h1 : x.1 ≤ v.length) : (addAt v x).sum = v.sum + x.2 := by
  unfold addAt
  obtain ⟨k, hk⟩ : ∃ k : Nat, x.1 = (k : Int) + 1 := ⟨(x.1 - 1).toNat, by omega⟩
  have e : (x.1 - 1).toNat = k := by omega
  rw [e]
  have hkl : k < v.length := by omega
  clear h0 h1 e hk
  generalize x.2 = n
  induction v generalizing k with
  | nil => simp at hkl
  | cons y v ih =>
    cases k with
    | zero => simp; omega
    | succ k =>
      have := ih k (by simpa using hkl)
      simp only [List.set_cons_succ, List.sum_cons, List.getD_cons_succ]
      omega
theorem runsOf_who {l : List LLeaf} (hb : BookOk l) : ∀ x ∈ runsOf l, 1 ≤ x.1 ∧ x.1 ≤ 8 := by
  have key : ∀ (l : List LLeaf) (out : List Run), (∀ x ∈ l, placeErr x.place = 0) → (∀ x ∈ out, 1 ≤ x.1 ∧ x.1 ≤ 8) → ∀ x ∈ l.foldl (fun out x => if seenB x = true then runAdd out (whoP x.place) else out) out, 1 ≤ x.1 ∧ x.1 ≤ 8 := by
    intro l
    induction l with
    | nil => intro out _ h x hx; exact h x hx
    | cons y l ih =>
      intro out hp h x hx
      rw [List.foldl_cons] at hx
      obtain ⟨_, w1, w2⟩ := whoP_place (hp y (by simp))
      refine ih _ (fun z hz => hp z (by simp [hz])) (fun z hz => ?_) x hx
      split at hz
      · rcases runAdd_cases out (whoP y.place) with ⟨_, e⟩ | ⟨k, hk, _, ⟨_, e⟩ | ⟨_, e⟩⟩
        · rw [e] at hz
          rcases List.mem_append.1 hz with hz | hz
          · exact h z hz
          · simp at hz; subst hz; exact ⟨w1, w2⟩
        · rw [e] at hz
          rcases List.mem_or_eq_of_mem_set hz with hz | rfl
          · exact h z hz
          · have := h _ (List.getElem_mem hk); exact this
        · rw [e] at hz
          rcases List.mem_append.1 hz with hz | hz
          · exact h z hz
          · simp at hz; subst hz; exact ⟨w1, w2⟩
      · exact h z hz
  exact key l [] (fun x hx => (hb.leafs x hx).place) (by simp)
theorem written_sum {rs : List Run} (h : ∀ x ∈ rs, 1 ≤ x.1 ∧ x.1 ≤ 8) : (writtenOf rs).sum = runSum rs := by
  have key : ∀ (rs : List Run) (v : List Int), v.length = 8 → (∀ x ∈ rs, 1 ≤ x.1 ∧ x.1 ≤ 8) → (rs.foldl addAt v).sum = v.sum + runSum rs := by
    intro rs
    induction rs with
    | nil => intro v _ _; simp [runSum]
    | cons x rs ih =>
      intro v hv h
      obtain ⟨h0, h1⟩ := h x (by simp)
      rw [List.foldl_cons, ih _ (by rw [addAt_len]; exact hv) (fun y hy => h y (by simp [hy])), addAt_sum h0 (by omega)]
      simp [runSum]
      omega
  have := key rs [0, 0, 0, 0, 0, 0, 0, 0] rfl h
  simpa [writtenOf] using this
/-- Runs one behind the other are of two. -/
def Apart : List Run → Prop
  | [] => True
  | [_] => True
  | x :: y :: l => x.1 ≠ y.1 ∧ Apart (y :: l)
def ApartK (l : List Run) : Prop := ∀ i (h : i + 1 < l.length), l[i].1 ≠ l[i + 1].1
theorem runs_apart (l : List LLeaf) : ApartK (runsOf l) := by
  have key : ∀ (l : List LLeaf) (out : List Run), ApartK out → ApartK (l.foldl (fun out x => if seenB x = true then runAdd out (whoP x.place) else out) out) := by
    intro l
    induction l with
    | nil => intro out h; exact h
    | cons y l ih =>
      intro out h
      rw [List.foldl_cons]
      refine ih _ ?_
      split
      · rcases runAdd_cases out (whoP y.place) with ⟨e0, e⟩ | ⟨k, hk, hk2, ⟨e1, e⟩ | ⟨e1, e⟩⟩
        · rw [e]; intro i hi; simp at hi; omega
        · rw [e]
          intro i hi
          rw [List.length_set] at hi
          have := h i hi
          rw [List.getElem_set, List.getElem_set]
          by_cases h1 : k = i
          · omega
          · rw [if_neg h1]
            by_cases h2 : k = i + 1
            · subst h2; rw [if_pos rfl]; exact this
            · rw [if_neg h2]; exact this
        · rw [e]
          intro i hi
          simp only [List.length_append, List.length_cons, List.length_nil] at hi
          by_cases h2 : i + 1 < out.length
          · rw [List.getElem_append_left (by omega), List.getElem_append_left h2]
            exact h i h2
          · have hik : i = k := by omega
            subst hik
            rw [List.getElem_append_left hk, List.getElem_append_right (by omega)]
            simp only [hk2, Nat.sub_self, List.getElem_cons_zero]
            exact e1
      · exact h
  exact key l [] (by intro i h; simp at h)
def WrittenLoop (w : World) (rs : List Run) (g : Nat) (V : Option Addr) (cv : Nat) (i : Value) (wr : World) : Prop :=
  ∃ k : Nat, k ≤ rs.length ∧ i = .int .i64 k ∧ Hid (Own wr w.heap.size 3 1 (some ⟨g, 0, none⟩) 8 8 (ints (writtenOf (rs.take k)))) ∧ Hid (Own wr w.heap.size 27 2 V rs.length cv (rcells rs)) ∧ Hid (Below w.heap.size w wr)
def WrittenPost (w : World) (l : List LLeaf) (e : Ending) (w' : World) : Prop :=
  ∃ V c, e = .returned (.tuple #[.slice V 8 c, .nilIface]) ∧ Own w' w.heap.size 3 1 V 8 c (ints (writtenOf (runsOf l))) ∧ Below w.heap.size w w'
theorem written_le {rs : List Run} (h : ∀ x ∈ rs, 1 ≤ x.2 ∧ x.2 ≤ 300) (hl : rs.length ≤ 300) : ∀ n ∈ writtenOf rs, 0 ≤ n ∧ n ≤ 90000 := by
  have key : ∀ (rs : List Run) (v : List Int) (m : Nat), (∀ x ∈ rs, 1 ≤ x.2 ∧ x.2 ≤ 300) → (∀ n ∈ v, 0 ≤ n ∧ n ≤ (m : Int) * 300) → ∀ n ∈ rs.foldl addAt v, 0 ≤ n ∧ n ≤ ((m + rs.length : Nat) : Int) * 300 := by
    intro rs
    induction rs with
    | nil => intro v m _ h n hn; simpa using h n hn
    | cons x rs ih =>
      intro v m h hv n hn
      rw [List.foldl_cons] at hn
      have hx := h x (by simp)
      have := ih (addAt v x) (m + 1) (fun y hy => h y (by simp [hy])) (fun z hz => ?_) n hn
      · simp only [List.length_cons]
        have e : ((m + 1 + rs.length : Nat) : Int) = ((m + (rs.length + 1) : Nat) : Int) := by omega
        rw [e] at this
        exact this
      · unfold addAt at hz
        rcases List.mem_or_eq_of_mem_set hz with hz | rfl
        · have := hv z hz; omega
        · have hd : 0 ≤ v.getD (x.1 - 1).toNat 0 ∧ v.getD (x.1 - 1).toNat 0 ≤ (m : Int) * 300 := by
            rcases Nat.lt_or_ge (x.1 - 1).toNat v.length with h1 | h1
            · have := hv _ (List.getElem_mem h1)
              rw [List.getD, List.getElem?_eq_getElem h1]; exact this
            · rw [List.getD, List.getElem?_eq_none h1]; simp; omega
          omega
  intro n hn
  have := key rs [0, 0, 0, 0, 0, 0, 0, 0] 0 h (by simp) n hn
  omega
set_option maxRecDepth 100000 in
set_option maxHeartbeats 8000000 in
theorem written_any (w : World) (A : Option Addr) (c : Nat) (l : List LLeaf) (h : Reads w w.heap.size 3 A l.length (lcells l)) (hb : BookOk l) :
    Calls Tryd.prog 9 #[.slice A l.length c] w (WrittenPost w l) := by
  have HRN := Lib.hid (runs_any w A c l h hb)
  have hrl := runsOf_len l
  have hfew := hb.few
  have HW := Lib.hid (runsOf_who hb)
  have HL := Lib.hid (run_le l)
  have hmk : ∀ W : World, (Instr.makeSlice 25 (.int .i64 8) (.int .i64 8)).run Tryd.prog W = .ok (.slice (some ⟨W.heap.size, 0, none⟩) 8 8) (W.alloc (.cells zeros8 3)) := fun W => by
    have e : madeCells #[Value.int .i64 0] 8 = zeros8 := by apply Array.ext'; simp [madeCells, zeros8, Nat.mod_one, List.range, List.range.loop]
    rw [← e]
    exact run_make_row' (P := Tryd.prog) 25 3 (.int .i64 0) 8 Tryd.underlying25 (by kernel_rfl) rfl .i64 .i64 8 (by omega) (by omega) W
  have HZ : Hid (∀ (W : World) (N : Nat), N ≤ W.heap.size → Own (W.alloc (.cells zeros8 3)) N 3 1 (some ⟨W.heap.size, 0, none⟩) 8 8 (ints [0, 0, 0, 0, 0, 0, 0, 0])) := fun W N hN =>
    ⟨rfl, .inr ⟨W.heap.size, 8, zeros8, rfl, hN, heap_alloc_new W _, Nat.le_refl _, by decide, rfl, rfl⟩⟩
  clear h hb
  generalize zeros8 = z8 at *
  generalize hrs : runsOf l = rs at *
  have HRS := Lib.hid hrs
  have HRN : Hid (Calls Tryd.prog 13 #[.slice A l.length c] w fun e w' => ∃ V c, e = .returned (.tuple #[.slice V rs.length c, .nilIface]) ∧ Own w' w.heap.size 27 2 V rs.length c (rcells rs) ∧ Below w.heap.size w w') := HRN.out.mono fun e w' hh => by
    rw [← hrs]; exact hh
  clear hrs
  go_enter Tryd.func9, Tryd.ntmps9
  go_wp2_with fail
  refine HRN.out.mono ?_
  rintro e w1 ⟨V, cv, rfl, hO, hb1⟩
  have HO1 := Lib.hid hO
  have HB1 := Lib.hid hb1
  have HM := hmk w1
  have HZ1 := Lib.hid (HZ.out w1 w.heap.size HB1.out.size)
  clear hO hb1 hmk HZ
  go_wp2_with fail
  go_loopw [20] (fun i wr => WrittenLoop w rs w1.heap.size V cv i wr) (fun i _ => rs.length - (intOf i).toNat)
  case atStart => exact ⟨0, Nat.zero_le _, rfl, HZ1.out, HO1.out.alloc _, HB1.out.alloc HB1.out.size _⟩
  case round =>
    obtain ⟨k, hk, rfl, HO, HR, HB⟩ := hrel
    have k0 : (0 : Int) ≤ (k : Int) := by omega
    by_cases hlt : k < rs.length
    · have k1 : (k : Int) < (rs.length : Int) := by omega
      obtain ⟨g, rfl, hg1, hg2⟩ := HR.out.head (by omega)
      have a0 : wr.cell? ⟨g, k * 2, none⟩ = some (.int .i64 rs[k].1) := by rw [HR.out.cellAt (by omega), show k * 2 = k * 2 + 0 from rfl, rcells_at rs k 0 hlt (by omega)]; rfl
      have a1 : wr.cell? ⟨g, k * 2 + 1, none⟩ = some (.int .i64 rs[k].2) := by rw [HR.out.cellAt (by omega), rcells_at rs k 1 hlt (by omega)]; rfl
      have hxw := HW.out _ (List.getElem_mem hlt)
      have hxc := HL.out _ (List.getElem_mem hlt)
      have hvl := writtenOf_len (rs.take k)
      have hvb := written_le (rs := rs.take k) (fun x hx => by have := HL.out x (List.mem_of_mem_take hx); omega) (by rw [List.length_take]; omega)
      have HT := Lib.hid (writtenOf_take hlt)
      generalize hv : writtenOf (rs.take k) = v at *
      obtain ⟨j, hj⟩ : ∃ j : Nat, rs[k].1 = (j : Int) + 1 := ⟨(rs[k].1 - 1).toNat, by omega⟩
      generalize hx : rs[k] = x at *
      obtain ⟨who, cnt⟩ := x
      simp only at hj hxw hxc a0 a1
      subst hj
      have hj8 : j < 8 := by omega
      have hjv : j < v.length := by omega
      have hvj := hvb _ (List.getElem_mem hjv)
      have c0 : wr.cell? ⟨w1.heap.size, j, none⟩ = some (.int .i64 v[j]) := by rw [HO.out.cellAt (by omega), ints_at hjv]
      have f0 := HO.out.frozenAt j
      have HT' : Hid (writtenOf (rs.take (k + 1)) = v.set j (v[j] + cnt)) := by
        show _ = _
        rw [HT.out]
        unfold addAt
        simp only
        rw [show ((j : Int) + 1 - 1).toNat = j by omega, List.getD, List.getElem?_eq_getElem hjv]
        rfl
      have HST := Lib.hid (((HO.out.store hj8 (.int .i64 (v[j] + cnt))).alloc (.cells #[.int .i64 ((j : Int) + 1), .int .i64 cnt] 27)).drew)
      rw [ints_set] at HST
      have HRX := Lib.hid (((HR.out.only ((Only.refl [w1.heap.size] _).setCell (p := ⟨w1.heap.size, j, none⟩) (.inl (by simp)) (.int .i64 (v[j] + cnt))) (fun g' hg' hm => by
        simp at hm; subst hm
        rcases HO.out.2 with ⟨h2, _⟩ | ⟨g2, cap, cur, he, _, hh, _⟩
        · cases h2
        · injection he with he _ _
          injection he with he
          injection he with he
          subst he
          exact HR.out.blk_ne (t := 3) (cs := cur) hh (by decide) hg')).alloc (.cells #[.int .i64 ((j : Int) + 1), .int .i64 cnt] 27)).drew)
      have hw1 := HB1.out.size
      have HBX := Lib.hid ((((HB.out.setCell (p := ⟨w1.heap.size, j, none⟩) hw1 (.int .i64 (v[j] + cnt)))).alloc (HB.out.setCell (p := ⟨w1.heap.size, j, none⟩) hw1 (.int .i64 (v[j] + cnt))).size (.cells #[.int .i64 ((j : Int) + 1), .int .i64 cnt] 27)).drew)
      have hlt1 : w1.heap.size < wr.heap.size := (HO.out.lt w1.heap.size (by simp [ob])).2
      have c1 : (wr.alloc (.cells #[.int .i64 ((j : Int) + 1), .int .i64 cnt] 27)).cell? ⟨w1.heap.size, j, none⟩ = some (.int .i64 v[j]) := (World.cell?_alloc_lt wr _ _ hlt1).trans c0
      have f1 := (HO.out.alloc (.cells #[.int .i64 ((j : Int) + 1), .int .i64 cnt] 27)).frozenAt j
      have q1 : IntKind.i64.wrap ((j : Int) + 1 - 1) = (j : Int) := by rw [IntWalk.i64_in _ (by omega)]; omega
      have q2 : IntKind.i64.wrap (v[j] + cnt) = v[j] + cnt := IntWalk.i64_in _ (by omega)
      have j0 : (0 : Int) ≤ (j : Int) := by omega
      have j1 : (j : Int) < 8 := by omega
      clear hx hxw hxc hvl hvb HT HO HR hj8
      generalize v[j] = u at *
      go_wp2_with fail
      go_region
      all_goals
        go_wp2_with fail
        go_roundw
        case rel => exact ⟨k + 1, by omega, by go_num, by rw [HT'.out]; exact HST, HRX, HBX⟩
        case measure => simp [intOf]; omega
    · have k1 : ¬ (k : Int) < (rs.length : Int) := by omega
      obtain rfl : k = rs.length := by omega
      rw [List.take_length] at HO
      have HO' := Lib.hid HO.out
      go_wp2_with fail
      go_ret2
      exact ⟨_, 8, rfl, by rw [HRS.out]; exact HO'.out, HB.out⟩
end Go.Proofs.YtgmdnmdniidngaaDoor

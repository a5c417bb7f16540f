/- 2 texts in one: each says ahead of itself what is proved, and its conditions. -/
import Derived.Test.YtnmmnejoldbeiaaGreatDoorApartLaw
import Derived.Test.YtnmmnejoldbeiaaGreatDoorDocs2
import Derived.Test.YtnmmnejoldbeiaaGreatDoorNthSeen
/- What one document lacks of another one, and what comes of giving it: plain. Conditions: none. -/
namespace Go.Proofs.YtnmmnejoldbeiaaGreatDoor
open Go.RowKit
set_option linter.unusedVariables false
/-- Ops that a vector does not know. -/
def lacksB (v : List Int) (o : LOp) : Bool := decide (nOf v o.dot < o.dot.n)
def lacksR (l : List LOp) (v : List Int) : List LOp := l.filter (lacksB v)
theorem lacksR_take {l : List LOp} {v : List Int} {k : Nat} (h : k < l.length) : lacksR (l.take (k + 1)) v = if lacksB v l[k] = true then lacksR (l.take k) v ++ [l[k]] else lacksR (l.take k) v := by
  unfold lacksR
  rw [List.take_succ_eq_append_getElem h, List.filter_append]
  by_cases hb : lacksB v l[k] = true
  · rw [if_pos hb, List.filter_cons, if_pos hb]; rfl
  · rw [if_neg hb, List.filter_cons, if_neg hb]; simp
namespace LDoc
/-- How many of some ops are new. -/
def takeN (d : LDoc) : List LOp → Int
  | [] => 0
  | o :: t => if d.applyE o ≠ 0 then 0 else (if d.applyB o = true then 1 else 0) + (d.apply o).takeN t
theorem takeN_le : ∀ (l : List LOp) (d : LDoc), 0 ≤ d.takeN l ∧ d.takeN l ≤ l.length
  | [], d => by simp [takeN]
  | o :: t, d => by
    unfold takeN
    have := takeN_le t (d.apply o)
    split
    · simp; omega
    · split <;> simp <;> omega
end LDoc
theorem numbered_known {l : List LOp} {d : LDoc} (hk : d.Ok) (hs : Says d.ops d) (hn : Numbered l) (i : Int) (hi : dotErr ⟨i, 1⟩ = 0) : ofWho i (lacksR l d.known) = (ofWho i l).drop (ofWho i d.ops).length := by
  have hk2 : ∀ o ∈ ofWho i l, nOf d.known o.dot = ((ofWho i d.ops).length : Int) := fun o ho => by
    have hw := (mem_ofWho.1 ho).2
    rw [nOf_who d.known (show o.dot.who = (⟨i, 1⟩ : LDot).who from hw), hs.known _ hi]
  have e1 : ofWho i (lacksR l d.known) = (ofWho i l).filter (lacksB d.known) := by
    unfold ofWho lacksR
    rw [List.filter_filter, List.filter_filter]
    congr 1
    funext o
    exact Bool.and_comm _ _
  rw [e1]
  generalize hp : (ofWho i d.ops).length = p at *
  have hnum := hn i
  generalize ofWho i l = m at *
  have key : ∀ (m : List LOp) (s : Nat), (∀ (k : Nat) (o : LOp), m[k]? = some o → o.dot.n = (k : Int) + s + 1) → (∀ o ∈ m, nOf d.known o.dot = (p : Int)) → m.filter (lacksB d.known) = m.drop (p - s) := by
    intro m
    induction m with
    | nil => intro s _ _; simp
    | cons o m ih =>
      intro s h1 h2
      have h0 := h1 0 o rfl
      have hi2 := ih (s + 1) (fun k x hx => by have := h1 (k + 1) x (by simpa using hx); push_cast at this ⊢; omega) (fun x hx => h2 x (by simp [hx]))
      have hb : lacksB d.known o = decide (p ≤ s) := by
        unfold lacksB
        rw [h2 o (by simp), h0]
        congr 1
        apply propext
        push_cast
        omega
      rw [List.filter_cons, hb]
      by_cases hps : p ≤ s
      · rw [if_pos (decide_eq_true hps), hi2, show p - (s + 1) = 0 by omega, show p - s = 0 by omega]; rfl
      · rw [if_neg (by simpa using hps), hi2, show p - s = (p - (s + 1)) + 1 by omega]; rfl
  have := key m 0 (fun k o ho => by have := hnum k o ho; simpa using this) hk2
  simpa using this
namespace LDoc
/-- Ops that lack, done one behind the other, are all new. -/
theorem news_do : ∀ (l : List LOp) (d : LDoc), d.Ok → Says d.ops d → (∀ i, ∀ (k : Nat) (o : LOp), (ofWho i l)[k]? = some o → o.dot.n = (k : Int) + (ofWho i d.ops).length + 1) → d.doE l = 0 → (d.doR l).ops = d.ops ++ l ∧ d.takeN l = l.length
  | [], d => fun _ _ _ _ => by simp [doR, takeN]
  | o :: t, d => fun hk hs hn hd => by
    unfold doE at hd
    unfold doR takeN
    by_cases he : d.applyE o ≠ 0
    · rw [if_pos he] at hd; exact absurd hd he
    rw [if_neg he] at hd ⊢
    rw [if_neg he]
    have he0 : d.applyE o = 0 := by omega
    have hop : opErr o = 0 := by
      by_cases h : opErr o = 0
      · exact h
      · have : d.applyE o = opErr o := by unfold applyE; rw [if_pos h]
        omega
    obtain ⟨p1, _⟩ := op_ok hop
    have h0 := hn o.dot.who 0 o (by simp [ofWho])
    obtain ⟨q1, q2, q3, q4, q5⟩ := apply_new hk he0 (by rw [hs.known _ p1]; omega)
    have ho : (d.apply o).ops = d.ops ++ [o] := by rw [q5]
    have hn2 : ∀ i, ∀ (k : Nat) (x : LOp), (ofWho i t)[k]? = some x → x.dot.n = (k : Int) + (ofWho i (d.apply o).ops).length + 1 := fun i k x hx => by
      rw [ho, ofWho_add]
      by_cases hw : o.dot.who = i
      · have e1 : ofWho i [o] = [o] := by simp [ofWho, hw]
        have e2 : ofWho i (o :: t) = o :: ofWho i t := by simp [ofWho, hw]
        have := hn i (k + 1) x (by rw [e2]; simpa using hx)
        rw [e1, List.length_append]
        simp only [List.length_cons, List.length_nil]
        push_cast at this ⊢
        omega
      · have e1 : ofWho i [o] = [] := by simp [ofWho, hw]
        have e2 : ofWho i (o :: t) = ofWho i t := by simp [ofWho, hw]
        have := hn i k x (by rw [e2]; exact hx)
        rw [e1, List.append_nil]
        exact this
    obtain ⟨r1, r2⟩ := news_do t (d.apply o) (apply_ok hk o) (apply_says hk hs o) hn2 hd
    rw [r1, r2, ho, if_pos q1]
    refine ⟨by simp, ?_⟩
    simp only [List.length_cons]; push_cast; omega
def gave (a b : LDoc) : LDoc := b.doR (lacksR a.ops b.known)
def gaveE (a b : LDoc) : Int := b.doE (lacksR a.ops b.known)
def gaveN (a b : LDoc) : Int := b.takeN (lacksR a.ops b.known)
/-- One has given what the other one lacked. -/
theorem gave_ok {a b : LDoc} (ka : a.Ok) (kb : b.Ok) (sa : Says a.ops a) (sb : Says b.ops b) (na : Numbered a.ops) (h : gaveE a b = 0) :
    (gave a b).ops = b.ops ++ lacksR a.ops b.known ∧ gaveN a b = (lacksR a.ops b.known).length ∧ ∀ i, dotErr ⟨i, 1⟩ = 0 → ofWho i (gave a b).ops = ofWho i b.ops ++ (ofWho i a.ops).drop (ofWho i b.ops).length := by
  have hgood : ∀ o ∈ lacksR a.ops b.known, dotErr ⟨o.dot.who, 1⟩ = 0 := fun o ho => by
    have h1 := sa.good o (List.mem_filter.1 ho).1
    have h2 := (op_ok h1).1
    unfold dotErr at h2 ⊢
    split at h2
    · rw [if_pos]; simp only; omega
    · omega
  have hn : ∀ i, ∀ (k : Nat) (o : LOp), (ofWho i (lacksR a.ops b.known))[k]? = some o → o.dot.n = (k : Int) + (ofWho i b.ops).length + 1 := fun i k o ho => by
    have hm := List.mem_of_getElem? ho
    obtain ⟨m1, m2⟩ := mem_ofWho.1 hm
    have hi : dotErr ⟨i, 1⟩ = 0 := by rw [← m2]; exact hgood o m1
    rw [numbered_known kb sb na i hi, List.getElem?_drop] at ho
    have := na i _ o ho
    push_cast at this
    omega
  obtain ⟨r1, r2⟩ := news_do _ b kb sb hn h
  refine ⟨r1, r2, fun i hi => ?_⟩
  show ofWho i (b.doR (lacksR a.ops b.known)).ops = _
  rw [r1, ofWho_add, numbered_known kb sb na i hi]
theorem doR_numbered : ∀ (l : List LOp) {d : LDoc}, d.Ok → Says d.ops d → Numbered d.ops → Numbered (d.doR l).ops
  | [], _, _, _, h => h
  | o :: t, d, hk, hs, h => by
    unfold doR
    split
    · exact h
    · exact doR_numbered t (apply_ok hk o) (apply_says hk hs o) (apply_numbered hk hs h o)
/-- Where both have an op of one dot, it is the same. -/
def Agree (a b : List LOp) : Prop := ∀ x ∈ a, ∀ y ∈ b, x.dot = y.dot → x = y
theorem both_ofWho {a b : LDoc} (ka : a.Ok) (kb : b.Ok) (sa : Says a.ops a) (sb : Says b.ops b) (na : Numbered a.ops) (nb : Numbered b.ops) (hag : Agree a.ops b.ops) (h1 : gaveE a b = 0) (h2 : gaveE (gave a b) a = 0) :
    ∀ i, ofWho i (gave (gave a b) a).ops = ofWho i (gave a b).ops := by
  have kb' : (gave a b).Ok := doR_ok _ kb
  have sb' : Says (gave a b).ops (gave a b) := doR_says _ kb sb
  have nb' : Numbered (gave a b).ops := doR_numbered _ kb sb nb
  obtain ⟨o1, _, r1⟩ := gave_ok ka kb sa sb na h1
  obtain ⟨o2, _, r2⟩ := gave_ok kb' ka sb' sa nb' h2
  intro i
  by_cases hi : dotErr ⟨i, 1⟩ = 0
  · rw [r2 i hi, r1 i hi]
    -- one of the two begins the other
    have hpre : ∀ k (h3 : k < (ofWho i a.ops).length) (h4 : k < (ofWho i b.ops).length), (ofWho i a.ops)[k] = (ofWho i b.ops)[k] := fun k h3 h4 => by
      have e1 := na i k _ (List.getElem?_eq_getElem h3)
      have e2 := nb i k _ (List.getElem?_eq_getElem h4)
      have m1 := mem_ofWho.1 (List.getElem_mem h3)
      have m2 := mem_ofWho.1 (List.getElem_mem h4)
      refine hag _ m1.1 _ m2.1 ?_
      have w1 := m1.2
      have w2 := m2.2
      generalize (ofWho i a.ops)[k] = x at *
      generalize (ofWho i b.ops)[k] = y at *
      obtain ⟨⟨xw, xn⟩, _, _, _, _⟩ := x
      obtain ⟨⟨yw, yn⟩, _, _, _, _⟩ := y
      simp only at e1 e2 w1 w2
      rw [e1, e2, w1, w2]
    generalize ofWho i a.ops = u at *
    generalize ofWho i b.ops = v at *
    apply List.ext_getElem?
    intro k
    rcases Nat.lt_or_ge k u.length with hu | hu
    · rw [List.getElem?_append_left hu]
      rcases Nat.lt_or_ge k v.length with hv | hv
      · rw [List.getElem?_append_left hv, List.getElem?_eq_getElem hu, List.getElem?_eq_getElem hv, hpre k hu hv]
      · rw [List.getElem?_append_right hv, List.getElem?_drop]
        congr 1; omega
    · rw [List.getElem?_append_right hu, List.getElem?_drop]
      congr 1; omega
  · have hz : ∀ l : List LOp, (∀ o ∈ l, opErr o = 0) → ofWho i l = [] := fun l hl => by
      unfold ofWho
      rw [List.filter_eq_nil_iff]
      intro o ho
      simp only [decide_eq_true_eq]
      rintro rfl
      apply hi
      have h3 := (op_ok (hl o ho)).1
      unfold dotErr at h3 ⊢
      split at h3
      · rw [if_pos]; simp only; omega
      · omega
    have sa2 : Says (gave (gave a b) a).ops (gave (gave a b) a) := doR_says _ ka sa
    rw [hz _ sa2.good, hz _ sb'.good]
/-- Then none lacks anything. -/
theorem sync_plain {a b : LDoc} (ka : a.Ok) (kb : b.Ok) (sa : Says a.ops a) (sb : Says b.ops b) (na : Numbered a.ops) (nb : Numbered b.ops) (hag : Agree a.ops b.ops) (h1 : gaveE a b = 0) (h2 : gaveE (gave a b) a = 0) :
    (gave (gave a b) a).book = (gave a b).book ∧ (gave (gave a b) a).marks = (gave a b).marks ∧ (gave (gave a b) a).known = (gave a b).known :=
  Says.same (doR_says _ ka sa) (doR_says _ kb sb) (doR_ok _ ka) (doR_ok _ kb) (both_ofWho ka kb sa sb na nb hag h1 h2)
theorem lacks_none {l : List LOp} {d : LDoc} (h : ∀ o ∈ l, hasRes d.known o.dot = true) : lacksR l d.known = [] := by
  unfold lacksR
  rw [List.filter_eq_nil_iff]
  intro o ho
  obtain ⟨_, _, h3⟩ := hasRes_iff.1 (h o ho)
  unfold lacksB
  simp only [decide_eq_true_eq]
  omega
theorem same_lacks {a b : LDoc} (ka : a.Ok) (kb : b.Ok) (h : a.known = b.known) : lacksR a.ops b.known = [] ∧ lacksR b.ops a.known = [] :=
  ⟨lacks_none fun o ho => by rw [← h]; exact (ka.ops o ho).2, lacks_none fun o ho => by rw [h]; exact (kb.ops o ho).2⟩
end LDoc
end Go.Proofs.YtnmmnejoldbeiaaGreatDoor
/- sync.lacks, sync.take, walked. Conditions: the document is right; the ops can be read, and lie apart from it. -/
namespace Go.Proofs.YtnmmnejoldbeiaaGreatDoor
open Go.RowKit
set_option linter.unusedVariables false
def lacksO (l : List OpAt) (v : List Int) : List OpAt := l.filter fun y => lacksB v y.op
theorem lacksO_map (l : List OpAt) (v : List Int) : (lacksO l v).map OpAt.op = lacksR (l.map OpAt.op) v := by
  unfold lacksO lacksR
  rw [List.filter_map]
  rfl
theorem lacksO_take {l : List OpAt} {v : List Int} {k : Nat} (h : k < l.length) : lacksO (l.take (k + 1)) v = if lacksB v l[k].op = true then lacksO (l.take k) v ++ [l[k]] else lacksO (l.take k) v := by
  unfold lacksO
  rw [List.take_succ_eq_append_getElem h, List.filter_append]
  by_cases hb : lacksB v l[k].op = true
  · rw [if_pos hb, List.filter_cons, if_pos hb]; rfl
  · rw [if_neg hb, List.filter_cons, if_neg hb]; simp
theorem reads_op_at (W : World) (N : Nat) (h : W.heap.size = N) (y : OpAt) : Reads (W.alloc (.cells (y.op.cells y.at_ y.cap) 30)) (N + 1) 6 (some ⟨N, 0, none⟩) 1 (ocells [y]) := by
  subst h; exact reads_op W y
def LacksLoop (w : World) (l : List OpAt) (v : List Int) (o i : Value) (wr : World) : Prop :=
  ∃ (k cv : Nat) (V : Option Addr), k ≤ l.length ∧ i = .int .i64 k ∧ o = .slice V (lacksO (l.take k) v).length cv ∧ Hid (Own wr w.heap.size 30 6 V (lacksO (l.take k) v).length cv (ocells (lacksO (l.take k) v))) ∧ Hid (Below w.heap.size w wr)
def LacksPost (w : World) (l : List OpAt) (v : List Int) (e : Ending) (w' : World) : Prop :=
  ∃ V c, e = .returned (.slice V (lacksO l v).length c) ∧ Own w' w.heap.size 30 6 V (lacksO l v).length c (ocells (lacksO l v)) ∧ Below w.heap.size w w'
set_option maxRecDepth 100000 in
set_option maxHeartbeats 4000000 in
theorem slacks_any (w : World) (A : Option Addr) (c : Nat) (l : List OpAt) (K : Option Addr) (ck : Nat) (v : List Int) (h : Reads w w.heap.size 6 A l.length (ocells l)) (hg : ∀ y ∈ l, dotErr y.op.dot = 0) (hl : l.length ≤ 100000) (hv : Reads w w.heap.size 1 K v.length (ints v)) (hv8 : v.length = 8) :
    Calls Tryz.prog 76 #[.slice A l.length c, .slice K v.length ck] w (LacksPost w l v) := by
  have HR := Lib.hid h
  have HV := Lib.hid hv
  have HG := Lib.hid hg
  have HV8 := Lib.hid hv8
  clear h hv hg hv8
  go_enter Tryz.func76, Tryz.ntmps76
  go_wp2_with fail
  go_loopw [4, 9] (fun o i wr => LacksLoop w l v o i wr) (fun _ i _ => l.length - (intOf i).toNat)
  case atStart => exact ⟨0, 0, none, Nat.zero_le _, rfl, rfl, Own.nil _ _ _ _, Below.refl _ _⟩
  case round =>
    obtain ⟨k, cv, V, hk, rfl, rfl, HO, HB⟩ := hrel
    have k0 : (0 : Int) ≤ (k : Int) := by omega
    by_cases hlt : k < l.length
    · have k1 : (k : Int) < (l.length : Int) := by omega
      obtain ⟨ad, rfl, _, d0, d1, d2, d3, d4, d5⟩ := (HR.out.below HB.out).op hlt
      have HT := Lib.hid (lacksO_take (v := v) hlt)
      have hll : (lacksO (l.take k) v).length ≤ k := by have := List.length_filter_le (fun y : OpAt => lacksB v y.op) (l.take k); unfold lacksO; rw [List.length_take] at this; omega
      obtain ⟨j, hj, hw, n1, n2⟩ := dot_in (HG.out _ (List.getElem_mem hlt))
      have hj8 : j < v.length := by have := HV8.out; omega
      obtain ⟨av, rfl, _, _⟩ := HV.out.int hj8
      have HCV : Hid (∀ W, Below w.heap.size w W → W.cell? (av.add j) = some (.int .i64 v[j])) := fun W hb => by
        obtain ⟨a', e, _, hh⟩ := (HV.out.below hb).int hj8
        injection e with e
        subst e
        exact hh
      have hnof : nOf v l[k].op.dot = v[j] := by
        unfold nOf
        rw [hw, show ((j : Int) + 1 - 1).toNat = j by omega]
        simp [List.getD, hj8]
      have hlb : lacksB v l[k].op = decide (v[j] < l[k].op.dot.n) := by unfold lacksB; rw [hnof]
      rw [hlb] at HT
      have HRO := Lib.hid (fun (W : World) (N : Nat) (hN : W.heap.size = N) => reads_op_at W N hN l[k])
      have HON := Lib.hid (ocells_one [l[k]])
      have hF : Fits ((lacksO (l.take k) v).length + 1) 72 := Fits.of_small (by omega) (by decide)
      generalize lacksO (l.take k) v = rs at *
      generalize l[k] = y at *
      obtain ⟨⟨⟨who, n⟩, what, p, letter, seen⟩, ya, yc⟩ := y
      unfold LOp.cells at HRO
      simp only at d0 d1 d2 d3 d4 d5 hw HT HRO HON
      subst hw
      have q1 : IntKind.i64.wrap ((j : Int) + 1 - 1) = (j : Int) := by rw [IntWalk.i64_in _ (by omega)]; omega
      have j0 : (0 : Int) ≤ (j : Int) := by omega
      have j1 : (j : Int) < (v.length : Int) := by omega
      have HOX := Lib.hid (HO.out.alloc (.cells #[.int .i64 ((j : Int) + 1), .int .i64 n, .int .i64 what, .string p, .int .i64 letter, .slice ya seen.length yc] 30))
      have HBX : Hid (Below w.heap.size w (wr.alloc (.cells #[.int .i64 ((j : Int) + 1), .int .i64 n, .int .i64 what, .string p, .int .i64 letter, .slice ya seen.length yc] 30))) := HB.out.alloc HB.out.size _
      have hsz : w.heap.size ≤ wr.heap.size := HB.out.size
      have b0 : (wr.alloc (.cells #[.int .i64 ((j : Int) + 1), .int .i64 n, .int .i64 what, .string p, .int .i64 letter, .slice ya seen.length yc] 30)).cell? ⟨wr.heap.size, 0, none⟩ = some (.int .i64 ((j : Int) + 1)) := (Blk.new wr 30 _).cell 0
      have b1 : (wr.alloc (.cells #[.int .i64 ((j : Int) + 1), .int .i64 n, .int .i64 what, .string p, .int .i64 letter, .slice ya seen.length yc] 30)).cell? ⟨wr.heap.size, 1, none⟩ = some (.int .i64 n) := (Blk.new wr 30 _).cell 1
      have c0 := HCV.out _ (HB.out.alloc HB.out.size (.cells #[.int .i64 ((j : Int) + 1), .int .i64 n, .int .i64 what, .string p, .int .i64 letter, .slice ya seen.length yc] 30))
      clear hnof hlb HO
      generalize v[j] = u at *
      by_cases hlk : u < n
      · have g1 : decide (n > u) = true := decide_eq_true hlk
        have g2 : decide (u < n) = true := decide_eq_true hlk
        rw [decide_eq_true hlk] at HT
        simp only [if_true] at HT
        clear hlk
        go_wp2_with fail
        go_quiet (fail)
        go_wp2_with (at_builtin; go_loud (refine wpList_app _ (.tmp 24) (.tmp 26) rfl rfl elemO_ rfl rfl ((HOX.out.drewN _).alloc _) (HRO.out _ _ (by simp)) HON.out hF (by simp; omega) ?_; intro V2 cv2 w4 HO4 HL4 HX4; have HOn := Lib.hid HO4; have HBn : Hid (Below w.heap.size w w4) := ((below_drewN HBX.out _).alloc HBX.out.size _).trans (HL4.below (by simp; omega) (fun g hg => (HOX.out.lt g hg).1)); clear HO4 HL4 HX4))
        go_roundw
        case rel => exact ⟨k + 1, cv2, V2, by omega, by go_num, by rw [HT.out]; simp, by rw [HT.out, ocells_app, List.length_append]; exact HOn, HBn⟩
        case measure => simp [intOf]; omega
      · have g1 : decide (n > u) = false := decide_eq_false hlk
        have g2 : decide (u < n) = false := decide_eq_false hlk
        rw [decide_eq_false hlk] at HT
        simp only [Bool.false_eq_true, if_false] at HT
        clear hlk
        go_wp2_with fail
        go_quiet (fail)
        go_wp2_with fail
        go_roundw
        case rel => exact ⟨k + 1, cv, V, by omega, by go_num, by rw [HT.out], by rw [HT.out]; exact HOX.out.drewN _, below_drewN HBX.out _⟩
        case measure => simp [intOf]; omega
    · have k1 : ¬ (k : Int) < (l.length : Int) := by omega
      obtain rfl : k = l.length := by omega
      rw [List.take_length] at HO ⊢
      go_wp2_with fail
      go_ret
      exact ⟨V, cv, rfl, HO.out, HB.out⟩
end Go.Proofs.YtnmmnejoldbeiaaGreatDoor

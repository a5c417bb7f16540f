/- 2 texts in one: each says ahead of itself what is proved, and its conditions. -/
import Derived.Test.YthfbjfocmnikaaaGreatDoorNthSeen
import Derived.Test.YthfbjfocmnikaaaGreatDoorPlace4
/- What lies between: above the one, below the other, a place of its author. Plain lemmas. Conditions: stated with each. -/
namespace Go.Proofs.YthfbjfocmnikaaaGreatDoor
open Go.RowKit
set_option linter.unusedVariables false

theorem less_asymm : ∀ (x y : List UInt8), Op.bytesLess x y = true → Op.bytesLess y x = false := by
  intro x
  induction x with
  | nil => intro y h; cases y <;> simp [Op.bytesLess] at h ⊢
  | cons a x ih =>
    intro y h
    cases y with
    | nil => simp [Op.bytesLess] at h
    | cons b y =>
      simp only [Op.bytesLess, Bool.or_eq_true, Bool.and_eq_true, decide_eq_true_eq, beq_iff_eq, Bool.or_eq_false_iff, Bool.and_eq_false_iff, decide_eq_false_iff_not, beq_eq_false_iff_ne] at h ⊢
      rcases h with h | ⟨rfl, h⟩
      · refine ⟨fun h2 => ?_, .inl (fun h2 => ?_)⟩
        · have h1 := UInt8.lt_iff_toNat_lt.1 h; have h3 := UInt8.lt_iff_toNat_lt.1 h2; omega
        · subst h2; have h1 := UInt8.lt_iff_toNat_lt.1 h; omega
      · exact ⟨fun h2 => by have h3 := UInt8.lt_iff_toNat_lt.1 h2; omega, .inr (ih y h)⟩
theorem less_irrefl (x : List UInt8) : Op.bytesLess x x = false := by
  cases h : Op.bytesLess x x
  · rfl
  · rw [less_asymm x x h] at h; cases h

/-- All are letters from a to z. -/
def LowL (l : List UInt8) : Prop := ∀ c ∈ l, 97 ≤ c.toNat ∧ c.toNat ≤ 122
/-- The number of the first n letters, from the front. -/
def numF : List UInt8 → Nat → Nat
  | _, 0 => 0
  | [], _ + 1 => 0
  | c :: t, n + 1 => (c.toNat - 97) * 26 ^ n + numF t n
def digL (l : List UInt8) (i : Nat) : Nat := match l[i]? with | some c => c.toNat - 97 | none => 0
theorem numF_succ (l : List UInt8) (n : Nat) : numF l (n + 1) = numF l n * 26 + digL l n := by
  induction n generalizing l with
  | zero => cases l <;> simp [numF, digL]
  | succ n ih =>
    cases l with
    | nil => simp [numF, digL]
    | cons c t =>
      rw [numF, ih t, numF]
      have : digL (c :: t) (n + 1) = digL t n := by simp [digL]
      rw [this, Nat.add_mul, Nat.pow_succ, Nat.mul_assoc]
      omega
theorem dig_eq (s : ByteArray) (i : Nat) : dig s i = digL s.toList i := by
  unfold dig digL
  have hl := toList_len s
  by_cases h : i < s.size
  · rw [if_pos h, byteAt_in h, List.getElem?_eq_getElem (by omega)]
    have : s.toList[i]'(by omega) = s[i] := by
      simp only [ByteArray.toList_eq]
      rfl
    simp [this]
  · rw [if_neg h, List.getElem?_eq_none (by omega)]
theorem numb_eq (s : ByteArray) (n : Nat) : numb s n = numF s.toList n := by
  induction n with
  | zero => simp [numb, numF]
  | succ n ih => rw [numF_succ, ← ih, ← dig_eq]; rfl
theorem low_of {s : ByteArray} (h : Letters s) : LowL s.toList := by
  intro c hc
  obtain ⟨i, hi, rfl⟩ := List.mem_iff_getElem.1 hc
  have hl := toList_len s
  have := h i (by omega)
  rw [byteAt_in (by omega)] at this
  have e : s.toList[i] = s[i]'(by omega) := by
    simp only [ByteArray.toList_eq]
    rfl
  rw [e]
  exact this
theorem numF_lt {l : List UInt8} (h : LowL l) (n : Nat) : numF l n < 26 ^ n := by
  induction n generalizing l with
  | zero => simp [numF]
  | succ n ih =>
    cases l with
    | nil => simp [numF]; exact Nat.pos_of_ne_zero (by simp)
    | cons c t =>
      have h1 := h c (by simp)
      have h2 := ih (l := t) (fun d hd => h d (by simp [hd]))
      rw [numF, Nat.pow_succ]
      have h3 : (c.toNat - 97) * 26 ^ n ≤ 25 * 26 ^ n := Nat.mul_le_mul_right _ (by omega)
      omega
theorem less_num {x : List UInt8} (r : List UInt8) (hx : LowL x) : ∀ {l : List UInt8}, LowL l → numF l x.length < numF x x.length → Op.bytesLess l (x ++ r) = true := by
  induction x with
  | nil => intro l _ h; simp [numF] at h
  | cons d u ih =>
    intro l hl h
    cases l with
    | nil => rfl
    | cons c t =>
      have hd := hx d (by simp)
      have hc := hl c (by simp)
      have hu : LowL u := fun e he => hx e (by simp [he])
      have ht : LowL t := fun e he => hl e (by simp [he])
      simp only [List.length_cons, numF] at h
      have h1 := numF_lt hu u.length
      have h2 := numF_lt ht u.length
      simp only [List.cons_append, Op.bytesLess, Bool.or_eq_true, Bool.and_eq_true, decide_eq_true_eq, beq_iff_eq]
      rcases Nat.lt_trichotomy c.toNat d.toNat with hlt | heq | hgt
      · exact .inl (UInt8.lt_iff_toNat_lt.2 hlt)
      · exact .inr ⟨UInt8.toNat_inj.1 heq, ih hu ht (by rw [heq] at h; omega)⟩
      · exfalso
        have : (d.toNat - 97 + 1) * 26 ^ u.length ≤ (c.toNat - 97) * 26 ^ u.length := Nat.mul_le_mul_right _ (by omega)
        rw [Nat.add_mul] at this
        omega
theorem num_less {x : List UInt8} (r : List UInt8) (hx : LowL x) : ∀ {l : List UInt8}, LowL l → numF x x.length < numF l x.length → Op.bytesLess (x ++ r) l = true := by
  induction x with
  | nil => intro l _ h; simp [numF] at h
  | cons d u ih =>
    intro l hl h
    cases l with
    | nil => simp [numF] at h
    | cons c t =>
      have hd := hx d (by simp)
      have hc := hl c (by simp)
      have hu : LowL u := fun e he => hx e (by simp [he])
      have ht : LowL t := fun e he => hl e (by simp [he])
      simp only [List.length_cons, numF] at h
      have h1 := numF_lt hu u.length
      have h2 := numF_lt ht u.length
      simp only [List.cons_append, Op.bytesLess, Bool.or_eq_true, Bool.and_eq_true, decide_eq_true_eq, beq_iff_eq]
      rcases Nat.lt_trichotomy d.toNat c.toNat with hlt | heq | hgt
      · exact .inl (UInt8.lt_iff_toNat_lt.2 hlt)
      · exact .inr ⟨UInt8.toNat_inj.1 heq, ih hu ht (by rw [heq] at h; omega)⟩
      · exfalso
        have : (c.toNat - 97 + 1) * 26 ^ u.length ≤ (d.toNat - 97) * 26 ^ u.length := Nat.mul_le_mul_right _ (by omega)
        rw [Nat.add_mul] at this
        omega
theorem let_nat (x : Nat) : (UInt8.ofNat (97 + x % 26)).toNat = 97 + x % 26 := by simp; omega
theorem lets_low (x n : Nat) : LowL (lets x n) := by
  induction n generalizing x with
  | zero => intro c hc; simp [lets] at hc
  | succ n ih =>
    intro c hc
    simp only [lets, List.mem_append, List.mem_singleton] at hc
    rcases hc with hc | rfl
    · exact ih _ c hc
    · rw [let_nat]; omega
theorem numF_snoc (l : List UInt8) (c : UInt8) : numF (l ++ [c]) (l.length + 1) = numF l l.length * 26 + (c.toNat - 97) := by
  rw [numF_succ]
  congr 1
  · have : ∀ (n : Nat) (l m : List UInt8), n ≤ l.length → numF (l ++ m) n = numF l n := by
      intro n
      induction n with
      | zero => intro l m _; simp [numF]
      | succ n ih =>
        intro l m h
        cases l with
        | nil => simp at h
        | cons a l => simp only [List.cons_append, numF]; rw [ih l m (by simpa using h)]
    rw [this _ _ _ (Nat.le_refl _)]
  · simp [digL]
theorem lets_num {x n : Nat} (h : x < 26 ^ n) : numF (lets x n) n = x := by
  induction n generalizing x with
  | zero => simp at h; subst h; simp [numF]
  | succ n ih =>
    have h2 : x / 26 < 26 ^ n := by rw [Nat.div_lt_iff_lt_mul (by decide)]; rwa [Nat.pow_succ] at h
    have h3 := numF_snoc (lets (x / 26) n) (UInt8.ofNat (97 + x % 26))
    rw [lets_len, ih h2, let_nat] at h3
    rw [lets, h3]
    omega

/-- Where the quarter is. -/
theorem quarter_at {a b : ByteArray} : ∀ (f n : Nat), quarterFrom a b n f ≠ [] → ∃ m, n ≤ m ∧ m < n + f ∧ 1 ≤ many a b m ∧ quarterFrom a b n f = lets (val a b m) m := by
  intro f
  induction f with
  | zero => intro n h; simp [quarterFrom] at h
  | succ f ih =>
    intro n h
    by_cases hm : many a b n < 1
    · rw [from_next hm] at h ⊢
      obtain ⟨m, h1, h2, h3⟩ := ih (n + 1) h
      exact ⟨m, by omega, by omega, h3⟩
    · exact ⟨n, by omega, by omega, by omega, from_here hm⟩
theorem val_props {a b : ByteArray} {m : Nat} (h : 1 ≤ many a b m) : numb a m < val a b m ∧ (val a b m : Int) ≤ high b m ∧ val a b m % 26 ≠ 0 := by
  have hlow : ¬ high b m < numb a m := fun h2 => by have := many_low h2; omega
  have h1 := many_eq hlow
  have h2 := val_eq hlow (by omega)
  generalize many a b m = M at *
  generalize high b m = H at *
  generalize numb a m = L at *
  generalize val a b m = v at *
  refine ⟨?_, ?_, ?_⟩ <;> omega

structure Good (a b : ByteArray) (who : Int) (p : ByteArray) : Prop where
  check : placeErr p = 0
  who : ((byteAt p (p.size - 1) - 97 : Nat) : Int) = who
  long : (p.size : Int) = (quarter a b).length + 1
  room : roomErr a b = 0
  above : Op.bytesLess p.toList a.toList = false
  other : (p.toList == a.toList) = false
  below : b.size ≠ 0 → Op.bytesLess p.toList b.toList = true
theorem byteAt_strOf (l : List UInt8) (i : Nat) (h : i < l.length) : byteAt (strOf l) i = l[i].toNat := by
  rw [byteAt_in (by rw [strOf_size]; exact h)]
  rfl
theorem between_room {a b : ByteArray} {who : Int} (h : betweenErr a b who = 0) : 1 ≤ who ∧ who ≤ 8 ∧ roomErr a b = 0 := by
  unfold betweenErr at h
  split at h
  · cases h
  · exact ⟨by omega, by omega, h⟩
theorem room_parts {a b : ByteArray} (h : roomErr a b = 0) : readyErr a b = 0 ∧ quarter a b ≠ [] := by
  unfold roomErr at h
  split at h
  · rename_i h1; exact absurd h h1
  · rename_i h1
    split at h
    · cases h
    · rename_i h2; exact ⟨Decidable.byContradiction h1, h2⟩
theorem good_of {a b : ByteArray} {who : Int} (h : betweenErr a b who = 0) : Good a b who (strOf (betweenRes a b who)) := by
  obtain ⟨hw1, hw2, hroom⟩ := between_room h
  obtain ⟨hready, hq⟩ := room_parts hroom
  obtain ⟨⟨ka, la⟩, kb, lb⟩ := ready_ok hready
  have hres : betweenRes a b who = quarter a b ++ [UInt8.ofNat (97 + who.toNat)] := if_pos h
  obtain ⟨m, hm1, hm2, hmany, hqm⟩ := quarter_at 11 1 hq
  change quarter a b = _ at hqm
  obtain ⟨v1, v2, v3⟩ := val_props hmany
  have hhigh := (high_le (a := a) lb m (by omega)).1
  have hv26 : val a b m < 26 ^ m := by
    have h3 := numb_lt lb m
    unfold high at v2
    split at v2
    · have : 0 < 26 ^ m := Nat.pos_of_ne_zero (by simp)
      omega
    · omega
  have hnum := lets_num hv26
  have hlow := lets_low (val a b m) m
  have hlen := lets_len (val a b m) m
  have hc : (UInt8.ofNat (97 + who.toNat)).toNat = 97 + who.toNat := by simp; omega
  have hless : Op.bytesLess a.toList (betweenRes a b who) = true := by
    rw [hres, hqm]
    refine less_num _ hlow (low_of la) ?_
    rw [hlen, ← numb_eq, hnum]
    exact v1
  have hal : LowL (betweenRes a b who) := by
    rw [hres, hqm]
    intro c hcm
    rcases List.mem_append.1 hcm with h1 | h1
    · exact hlow c h1
    · simp only [List.mem_singleton] at h1
      subst h1
      rw [hc]; omega
  have hL : (betweenRes a b who).length = m + 1 := by rw [hres, hqm]; simp [hlen]
  have hlast : (betweenRes a b who)[m]'(by omega) = UInt8.ofNat (97 + who.toNat) := by
    simp only [hres, hqm]
    rw [List.getElem_append_right (by omega)]
    simp
  have hlets : ∃ k, m = k + 1 := ⟨m - 1, by omega⟩
  obtain ⟨k, rfl⟩ := hlets
  have hprev : ((betweenRes a b who)[k]'(by omega)).toNat ≠ 97 := by
    simp only [hres, hqm]
    rw [List.getElem_append_left (by omega)]
    simp only [lets]
    rw [List.getElem_append_right (by rw [lets_len]; omega)]
    simp only [lets_len, Nat.sub_self, List.getElem_cons_zero, let_nat]
    omega
  have hsz : (strOf (betweenRes a b who)).size = k + 2 := by rw [strOf_size, hL]
  have b1 : byteAt (strOf (betweenRes a b who)) (k + 1) = 97 + who.toNat := by rw [byteAt_strOf _ _ (by omega), hlast, hc]
  refine ⟨?_, ?_, ?_, hroom, ?_, ?_, ?_⟩
  · unfold placeErr
    rw [if_neg (by omega), if_pos]
    refine ⟨fun i hi => ?_, by omega, ?_, ?_, ?_⟩
    · rw [hsz] at hi
      rw [byteAt_strOf _ _ (by omega)]
      exact hal _ (List.getElem_mem _)
    · rw [hsz, show k + 2 - 1 = k + 1 by omega, b1]; omega
    · rw [hsz, show k + 2 - 1 = k + 1 by omega, b1]; omega
    · rw [hsz, show k + 2 - 2 = k by omega, byteAt_strOf _ _ (by omega)]; exact hprev
  · rw [hsz, show k + 2 - 1 = k + 1 by omega, b1]; omega
  · rw [hsz, hqm, hlen]; omega
  · rw [strOf_toList]; exact less_asymm _ _ hless
  · rw [strOf_toList]
    cases hh : (betweenRes a b who == a.toList)
    · rfl
    · exfalso
      rw [beq_iff_eq] at hh
      rw [hh, less_irrefl] at hless
      cases hless
  · intro hb
    rw [strOf_toList, hres, hqm]
    refine num_less _ hlow (low_of lb) ?_
    rw [hlen, hnum, ← numb_eq]
    unfold high at v2
    rw [if_neg hb] at v2
    omega
end Go.Proofs.YthfbjfocmnikaaaGreatDoor
/- What an insert makes of a book: plain. Conditions: none. -/
namespace Go.Proofs.YthfbjfocmnikaaaGreatDoor
open Go.RowKit
set_option linter.unusedVariables false
theorem good_lt {a b : ByteArray} {who : Int} {p : ByteArray} (h : Good a b who p) : lt a p = true ∧ (b.size ≠ 0 → lt p b = true) := by
  refine ⟨?_, h.below⟩
  cases h1 : lt a p with
  | true => rfl
  | false =>
    have h2 : lt p a = false := h.above
    have := lt_total h1 h2
    subst this
    have := h.other
    simp at this
/-- Places of a are up to left, of b from right on. -/
structure Gap (a b : List LLeaf) (left right : ByteArray) : Prop where
  low : ∀ x ∈ a, x.place = left ∨ lt x.place left = true
  high : ∀ x ∈ b, right.size ≠ 0 ∧ (x.place = right ∨ lt right x.place = true)
theorem Gap.at_ {a b : List LLeaf} {left right : ByteArray} (h : Gap a b left right) {who : Int} {p : ByteArray} (hp : Good left right who p) : (∀ x ∈ a, lt x.place p = true) ∧ ∀ x ∈ b, lt p x.place = true := by
  obtain ⟨h1, h2⟩ := good_lt hp
  refine ⟨fun x hx => ?_, fun x hx => ?_⟩
  · rcases h.low x hx with h3 | h3
    · rw [h3]; exact h1
    · exact lt_trans h3 h1
  · obtain ⟨h4, h3⟩ := h.high x hx
    rcases h3 with h3 | h3
    · rw [h3]; exact h2 h4
    · exact lt_trans (h2 h4) h3
theorem Gap.next {a b : List LLeaf} {left right : ByteArray} (h : Gap a b left right) {who : Int} {p : ByteArray} (hp : Good left right who p) (n : Int) (s : Bool) : Gap (a ++ [⟨p, n, s⟩]) b p right := by
  obtain ⟨h1, h2⟩ := h.at_ hp
  refine ⟨fun x hx => ?_, h.high⟩
  rcases List.mem_append.1 hx with hx | hx
  · exact .inr (h1 x hx)
  · simp at hx; subst hx; exact .inl rfl
theorem gap_none {a b : List LLeaf} {p : ByteArray} (hr : Rising (a ++ b)) (h1 : ∀ x ∈ a, lt x.place p = true) (h2 : ∀ x ∈ b, lt p x.place = true) : hasAt (a ++ b) p = false := by
  cases h : hasAt (a ++ b) p with
  | false => rfl
  | true =>
    obtain ⟨x, hx, he⟩ := (hasAt_iff hr p).1 h
    rcases List.mem_append.1 hx with hx | hx
    · exact absurd he (lt_ne (h1 x hx))
    · exact absurd he.symm (lt_ne (h2 x hx))
theorem upd_gap {a b : List LLeaf} {x : LLeaf} (hr : Rising (a ++ b)) (h1 : ∀ y ∈ a, lt y.place x.place = true) (h2 : ∀ y ∈ b, lt x.place y.place = true) : upd (a ++ b) x = a ++ x :: b := by
  rw [upd_eq hr, List.filter_append, List.filter_append]
  have e1 : a.filter (fun y => lt y.place x.place) = a := List.filter_eq_self.2 h1
  have e2 : b.filter (fun y => lt y.place x.place) = [] := List.filter_eq_nil_iff.2 fun y hy => by rw [lt_asymm (h2 y hy)]; decide
  have e3 : a.filter (fun y => lt x.place y.place) = [] := List.filter_eq_nil_iff.2 fun y hy => by rw [lt_asymm (h1 y hy)]; decide
  have e4 : b.filter (fun y => lt x.place y.place) = b := List.filter_eq_self.2 h2
  rw [e1, e2, e3, e4]; simp
namespace LDoc
/-- A new op that goes. -/
theorem apply_new {d : LDoc} (hk : d.Ok) {o : LOp} (h : d.applyE o = 0) (hn : nOf d.known o.dot < o.dot.n) :
    d.applyB o = true ∧ opErr o = 0 ∧ addErr d.known o.dot = 0 ∧ d.turnE o = 0 ∧ d.apply o = { d.turn o with known := addRes d.known o.dot, ops := d.ops ++ [o] } := by
  have hh : hasRes d.known o.dot = false := by
    unfold hasRes
    rw [Bool.and_eq_false_iff]
    exact .inr (decide_eq_false (by omega))
  have hb : d.applyB o = true := by unfold applyB; rw [hh, decide_eq_true h]; simp
  obtain ⟨h1, h2, h3, h4, h5⟩ := applyB_ok hk hb
  exact ⟨hb, h1, h2, h4, by unfold apply; rw [if_pos hb]⟩
end LDoc
def leafOf (o : LOp) : LLeaf := ⟨o.place, o.letter, false⟩
/-- The ops of letters that are typed. -/
def typedOps (who : Int) (right : ByteArray) : List UInt8 → ByteArray → Int → List LOp
  | [], _, _ => []
  | c :: t, left, n => ⟨⟨who, n + 1⟩, 1, strOf (betweenRes left right who), c.toNat, []⟩ :: typedOps who right t (strOf (betweenRes left right who)) (n + 1)
def TypedOk (who : Int) (right : ByteArray) : List UInt8 → ByteArray → Prop
  | [], _ => True
  | c :: t, left => betweenErr left right who = 0 ∧ TypedOk who right t (strOf (betweenRes left right who))
theorem typed_ops (right : ByteArray) : ∀ (t : List UInt8) (left : ByteArray) (m : LMk), (LMk.typed right t left m).2 = 0 → (LMk.typed right t left m).1.ops = m.ops ++ typedOps m.who right t left m.n ∧ TypedOk m.who right t left
  | [], left, m => fun _ => ⟨by simp [LMk.typed, typedOps], trivial⟩
  | c :: t, left, m => fun h => by
    unfold LMk.typed at h ⊢
    by_cases hb : betweenErr left right m.who ≠ 0
    · rw [if_pos hb] at h; exact absurd h hb
    · rw [if_neg hb] at h ⊢
      obtain ⟨h1, h2⟩ := typed_ops right t _ _ h
      refine ⟨?_, by omega, h2⟩
      rw [h1]
      simp [LMk.wr, LMk.add, LMk.put, LMk.next, typedOps]
theorem typedOps_len (who : Int) (right : ByteArray) : ∀ (t : List UInt8) (left : ByteArray) (n : Int), (typedOps who right t left n).length = t.length
  | [], _, _ => rfl
  | c :: t, left, n => by simp [typedOps, typedOps_len who right t]
theorem nOf_who (l : List Int) {d e : LDot} (h : d.who = e.who) : nOf l d = nOf l e := by unfold nOf; rw [h]
/-- Letters that are typed stand where they were typed. -/
theorem typed_do (who : Int) (right : ByteArray) : ∀ (t : List UInt8) (left : ByteArray) (n : Int) (d : LDoc) (a b : List LLeaf), d.Ok → d.book = a ++ b → Gap a b left right → nOf d.known ⟨who, 0⟩ = n → TypedOk who right t left →
    d.doE (typedOps who right t left n) = 0 →
    (d.doR (typedOps who right t left n)).book = a ++ (typedOps who right t left n).map leafOf ++ b ∧ (d.doR (typedOps who right t left n)).marks = d.marks ∧ (d.doR (typedOps who right t left n)).joined = d.joined ∧
      (d.doR (typedOps who right t left n)).ops = d.ops ++ typedOps who right t left n ∧ nOf (d.doR (typedOps who right t left n)).known ⟨who, 0⟩ = n + t.length
  | [], left, n, d, a, b => fun hk hb hg hn ht hd => by simp [typedOps, LDoc.doR, hb, hn]
  | c :: t, left, n, d, a, b => fun hk hb hg hn ht hd => by
    obtain ⟨t1, t2⟩ := ht
    have hgood := good_of t1
    rw [typedOps] at hd ⊢
    generalize hp : strOf (betweenRes left right who) = p at *
    unfold LDoc.doE at hd
    unfold LDoc.doR
    by_cases he : d.applyE ⟨⟨who, n + 1⟩, 1, p, c.toNat, []⟩ ≠ 0
    · rw [if_pos he] at hd; exact absurd hd he
    rw [if_neg he] at hd ⊢
    have hn' : nOf d.known ⟨who, n + 1⟩ = n := (nOf_who _ rfl).trans hn
    obtain ⟨q1, q2, q3, q4, q5⟩ := LDoc.apply_new hk (o := ⟨⟨who, n + 1⟩, 1, p, c.toNat, []⟩) (by omega) (by rw [hn']; show n < n + 1; omega)
    obtain ⟨g1, g2⟩ := hg.at_ hgood
    have hr : Rising (a ++ b) := by rw [← hb]; exact hk.book.rising
    have hno := gap_none hr g1 g2
    have hturn : d.turn ⟨⟨who, n + 1⟩, 1, p, c.toNat, []⟩ = { d with book := a ++ ⟨p, c.toNat, false⟩ :: b } := by
      unfold LDoc.turnE at q4
      rw [if_pos rfl] at q4
      unfold LDoc.turn
      rw [if_pos rfl, if_pos q4, write_upd, hb, no_old hno]
      rw [upd_gap hr g1 g2]
      rfl
    rw [hturn] at q5
    obtain ⟨a1, a2, a3⟩ := add_ok q3
    have hk2 := LDoc.apply_ok hk ⟨⟨who, n + 1⟩, 1, p, c.toNat, []⟩
    rw [q5] at hk2 hd ⊢
    have hn2 : nOf (addRes d.known ⟨who, n + 1⟩) ⟨who, 0⟩ = n + 1 := by
      rw [nOf_who _ (show (⟨who, 0⟩ : LDot).who = (⟨who, n + 1⟩ : LDot).who from rfl), nOf_add a1 a2 a2, if_pos rfl]
    obtain ⟨r1, r2, r3, r4, r5⟩ := typed_do who right t p (n + 1) _ (a ++ [⟨p, c.toNat, false⟩]) b hk2 (by simp) (hg.next hgood _ _) hn2 t2 hd
    refine ⟨?_, r2, r3, ?_, ?_⟩
    · rw [r1]; simp [leafOf]
    · rw [r4]; simp
    · rw [r5]; simp; omega
theorem typed_letters (who : Int) (right : ByteArray) : ∀ (t : List UInt8) (left : ByteArray) (n : Int), t.any badC = false → textL ((typedOps who right t left n).map leafOf) = t
  | [], _, _ => fun _ => rfl
  | c :: t, left, n => fun h => by
    rw [List.any_cons, Bool.or_eq_false_iff] at h
    have h1 : letterB (c.toNat : Int) = true := by have := h.1; unfold badC at this; simpa using this
    have h2 := letterB_range h1
    rw [typedOps, List.map_cons, textL_cons, typed_letters who right t _ _ h.2]
    have hs : seenB (leafOf ⟨⟨who, n + 1⟩, 1, strOf (betweenRes left right who), c.toNat, []⟩) = true := by
      simp [seenB, leafOf]; omega
    rw [if_pos hs]
    simp [leafOf, u8]
/-- Where an insert goes. -/
theorem ins_gap {l : List LLeaf} (hb : BookOk l) {off : Int} (h0 : 0 ≤ off) (h1 : off ≤ ((textOf l).size : Int)) :
    idxOf l off ≤ l.length ∧ ((textL (l.take (idxOf l off))).length : Int) = off ∧ Gap (l.take (idxOf l off)) (l.drop (idxOf l off)) (leftOf l off) (rightOf l (idxOf l off)) := by
  have hsz : (textOf l).size = (textL l).length := strOf_size _
  have hright : ∀ i, i ≤ l.length → ∀ x ∈ l.drop i, (rightOf l i).size ≠ 0 ∧ (x.place = rightOf l i ∨ lt (rightOf l i) x.place = true) := fun i hi x hx => by
    obtain ⟨j, hj, rfl⟩ := List.getElem_of_mem hx
    rw [List.length_drop] at hj
    have hil : i < l.length := by omega
    have e : rightOf l i = l[i].place := by unfold rightOf; rw [if_pos hil]; simp [List.getD, hil]
    rw [e, List.getElem_drop]
    refine ⟨?_, ?_⟩
    · have := (okPlace (hb.leafs _ (List.getElem_mem hil)).place).2.2.1; omega
    · rcases Nat.eq_zero_or_pos j with hj0 | hj0
      · subst hj0; exact .inl rfl
      · exact .inr (rising_lt hb.rising i (i + j) hil (by omega) (by omega))
  by_cases hp : 0 < off
  · obtain ⟨o, rfl⟩ : ∃ o : Nat, off = (o : Int) + 1 := ⟨(off - 1).toNat, by omega⟩
    obtain ⟨n, hn, e1, e2, e3⟩ := nth_seen l 0 o (by omega)
    have en : (nthFrom 0 l ((o : Int) + 1 - 1)).toNat = n := by rw [show (o : Int) + 1 - 1 = o by omega, e1]; omega
    have hi : idxOf l ((o : Int) + 1) = n + 1 := by unfold idxOf; rw [if_pos hp, en]
    have hl : leftOf l ((o : Int) + 1) = l[n].place := by unfold leftOf; rw [if_pos hp, en]; simp [List.getD, hn]
    rw [hi, hl]
    refine ⟨by omega, ?_, fun x hx => ?_, hright (n + 1) (by omega)⟩
    · rw [textL_take hn, if_pos e2, List.length_append, e3]; simp
    · obtain ⟨j, hj, rfl⟩ := List.getElem_of_mem hx
      rw [List.length_take] at hj
      rw [List.getElem_take]
      by_cases hjn : j = n
      · subst hjn; exact .inl rfl
      · exact .inr (rising_lt hb.rising j n (by omega) hn (by omega))
  · obtain rfl : off = 0 := by omega
    have hi : idxOf l 0 = 0 := by unfold idxOf; rw [if_neg (by omega)]
    rw [hi]
    exact ⟨by omega, by simp [textL], fun x hx => by simp at hx, hright 0 (by omega)⟩
theorem insErr_zero {l : List LLeaf} {off : Int} {text : ByteArray} (h : insErr l off text = 0) : text.size ≤ 200 ∧ text.toList.any badC = false ∧ 0 ≤ off ∧ off ≤ ((textOf l).size : Int) := by
  unfold insErr at h
  split at h
  · omega
  split at h
  · omega
  split at h
  · omega
  rename_i h1 h2 h3
  exact ⟨by omega, by simpa using h2, by omega, by omega⟩
theorem who_dot {who : Int} (h : LDoc.whoE who = 0) : dotErr ⟨who, 1⟩ = 0 ∧ 1 ≤ who ∧ who ≤ 8 := by
  unfold LDoc.whoE at h
  split at h
  · omega
  · refine ⟨?_, by omega, by omega⟩
    unfold dotErr
    rw [if_pos]
    simp only
    omega
namespace LDoc
/-- What an insert is. -/
theorem ins_ok {d : LDoc} {who off : Int} {text : ByteArray} (h : d.insE who off text = 0) : whoE who = 0 ∧ insErr d.book off text = 0 ∧
    d.insR who off text = typedOps who (rightOf d.book (idxOf d.book off)) text.toList (leftOf d.book off) (nOf d.known ⟨who, 0⟩) ∧ TypedOk who (rightOf d.book (idxOf d.book off)) text.toList (leftOf d.book off) := by
  have h0 := h
  unfold insE at h
  split at h
  · omega
  rename_i h1
  unfold LMk.ins at h
  split at h
  · rename_i h2; exact absurd h h2
  rename_i h2
  obtain ⟨t1, t2⟩ := typed_ops _ _ _ _ h
  refine ⟨by omega, by omega, ?_, t2⟩
  unfold insR
  rw [if_pos h0]
  unfold LMk.ins
  rw [if_neg h2, t1]
  simp [maker]
/-- What is typed is there. -/
theorem ins_does {d : LDoc} (hk : d.Ok) {who off : Int} {text : ByteArray} (h : d.insE who off text = 0) (hd : d.doE (d.insR who off text) = 0) :
    ∃ a b : List LLeaf, d.book = a ++ b ∧ ((textL a).length : Int) = off ∧ (d.doR (d.insR who off text)).book = a ++ (d.insR who off text).map leafOf ++ b ∧ textL ((d.insR who off text).map leafOf) = text.toList ∧
      (d.doR (d.insR who off text)).marks = d.marks ∧ (d.doR (d.insR who off text)).joined = d.joined ∧ (d.doR (d.insR who off text)).ops = d.ops ++ d.insR who off text ∧
      (∀ x ∈ a, ∀ o ∈ d.insR who off text, lt x.place o.place = true) ∧ (∀ x ∈ b, ∀ o ∈ d.insR who off text, lt o.place x.place = true) := by
  have hk2 := doR_ok (d.insR who off text) hk
  obtain ⟨h1, h2, h3, h4⟩ := ins_ok h
  obtain ⟨i1, i2, i3, i4⟩ := insErr_zero h2
  obtain ⟨g1, g2, g3⟩ := ins_gap hk.book i3 i4
  rw [h3] at hd hk2 ⊢
  obtain ⟨r1, r2, r3, r4, r5⟩ := typed_do who _ text.toList _ _ d _ _ hk (List.take_append_drop _ _).symm g3 rfl h4 hd
  refine ⟨_, _, (List.take_append_drop (idxOf d.book off) _).symm, g2, r1, typed_letters _ _ _ _ _ i2, r2, r3, r4, ?_, ?_⟩
  · intro x hx o ho
    have hr := rising_pair.1 hk2.book.rising
    rw [r1, List.pairwise_append, List.pairwise_append] at hr
    exact hr.1.2.2 x hx (leafOf o) (List.mem_map.2 ⟨o, ho, rfl⟩)
  · intro x hx o ho
    have hr := rising_pair.1 hk2.book.rising
    rw [r1, List.pairwise_append] at hr
    exact hr.2.2 (leafOf o) (by simp; exact .inr ⟨o, ho, rfl⟩) x hx
end LDoc
end Go.Proofs.YthfbjfocmnikaaaGreatDoor

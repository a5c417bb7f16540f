/- 7 texts in one: each says ahead of itself what is proved, and its conditions. -/
import Derived.Deep.CutBlock
import Derived.Deep.Upon
import Derived.Test.YtngalkmmpjegkaaGreatDoorBookAt
import Derived.Test.YtngalkmmpjegkaaGreatDoorNthSeen
import Derived.Test.YtngalkmmpjegkaaGreatDoorRefPlace
/- Texts between two: to count them letter by letter is to reckon with their numbers. Plain. Conditions: none. -/
namespace Go.Proofs.YtngalkmmpjegkaaGreatDoor
open Go.RowKit
set_option linter.unusedVariables false
/-! Counting -/
/-- Is x the number of a text that fits? -/
def okN (low : Nat) (hi : Option Nat) (x : Nat) : Bool := decide (low < x) && (match hi with | none => true | some h => decide (x < h)) && decide (x % 26 ≠ 0)
/-- How many numbers below x fit. -/
def cntN (low : Nat) (hi : Option Nat) : Nat → Nat
  | 0 => 0
  | x + 1 => cntN low hi x + if okN low hi x = true then 1 else 0
section
variable {low : Nat} {hi : Option Nat}
theorem cnt_mono {p q : Nat} (h : p ≤ q) : cntN low hi p ≤ cntN low hi q := by
  induction q with
  | zero =>
    have : p = 0 := by omega
    rw [this]
    exact Nat.le_refl _
  | succ q ih =>
    rcases Nat.lt_or_eq_of_le h with h1 | h1
    · have := ih (by omega); rw [cntN]; omega
    · subst h1; exact Nat.le_refl _
theorem cnt_none {p : Nat} : ∀ (m : Nat), (∀ x, p ≤ x → x < p + m → okN low hi x = false) → cntN low hi (p + m) = cntN low hi p
  | 0, _ => rfl
  | m + 1, h => by
    rw [show p + (m + 1) = (p + m) + 1 from rfl, cntN, h (p + m) (by omega) (by omega), cnt_none m (fun x h1 h2 => h x h1 (by omega))]
    simp
theorem cnt_run {p : Nat} (hp : p % 26 = 0) : ∀ (m : Nat), m ≤ 26 → (∀ x, p ≤ x → x < p + m → x % 26 ≠ 0 → okN low hi x = true) → cntN low hi (p + m) = cntN low hi p + (m - 1)
  | 0, _, _ => rfl
  | m + 1, hm, h => by
    rw [show p + (m + 1) = (p + m) + 1 from rfl, cntN, cnt_run hp m (by omega) (fun x h1 h2 => h x h1 (by omega))]
    rcases Nat.eq_zero_or_pos m with h0 | h0
    · subst h0
      have : okN low hi (p + 0) = false := by unfold okN; simp [hp]
      rw [this]; simp
    · rw [h (p + m) (by omega) (by omega) (by omega)]
      simp; omega
theorem cnt_all {p : Nat} (hp : p % 26 = 0) : ∀ (m : Nat), (∀ x, p ≤ x → x < p + 26 * m → x % 26 ≠ 0 → okN low hi x = true) → cntN low hi (p + 26 * m) = cntN low hi p + 25 * m
  | 0, _ => rfl
  | m + 1, h => by
    have h1 := cnt_all hp m (fun x h1 h2 => h x h1 (by omega))
    have h2 := cnt_run (low := low) (hi := hi) (p := p + 26 * m) (by omega) 26 (Nat.le_refl _) (fun x h3 h4 => h x (by omega) (by omega))
    rw [show p + 26 * (m + 1) = p + 26 * m + 26 by omega, h2, h1]
    omega
theorem okN_iff {x : Nat} : okN low hi x = true ↔ low < x ∧ (∀ h, hi = some h → x < h) ∧ x % 26 ≠ 0 := by
  unfold okN
  cases hi with
  | none => simp
  | some h => simp [and_assoc]
/-- How many, in one sum. -/
theorem cnt_eq : ∀ (x : Nat), (∀ h, hi = some h → x ≤ h) → cntN low hi x = upTo (x - 1) - upTo low
  | 0, _ => by simp [cntN, upTo]
  | x + 1, hh => by
    have ih := cnt_eq x (fun h e => by have := hh h e; omega)
    rw [cntN, ih]
    by_cases h1 : okN low hi x = true
    · rw [if_pos h1]
      obtain ⟨a, b, c⟩ := okN_iff.1 h1
      unfold upTo
      simp only [Nat.add_sub_cancel]
      omega
    · rw [if_neg h1]
      have h2 : ¬ (low < x ∧ x % 26 ≠ 0) := fun ⟨a, c⟩ => h1 (okN_iff.2 ⟨a, fun h e => by have := hh h e; omega, c⟩)
      unfold upTo
      simp only [Nat.add_sub_cancel, Nat.add_zero]
      by_cases h3 : low < x
      · have : x % 26 = 0 := by
          rcases Nat.eq_zero_or_pos (x % 26) with h | h
          · exact h
          · exact absurd ⟨h3, by omega⟩ h2
        omega
      · omega
theorem cnt_at {x y : Nat} (hx : okN low hi x = true) (hy : okN low hi y = true) (h : cntN low hi x = cntN low hi y) : x = y := by
  rcases Nat.lt_trichotomy x y with h1 | h1 | h1
  · have h2 := cnt_mono (low := low) (hi := hi) (show x + 1 ≤ y by omega)
    rw [cntN, hx] at h2
    simp at h2; omega
  · exact h1
  · have h2 := cnt_mono (low := low) (hi := hi) (show y + 1 ≤ x by omega)
    rw [cntN, hy] at h2
    simp at h2; omega
end
/-! Texts and numbers -/
theorem numF_app : ∀ (n : Nat) (l m : List UInt8), n ≤ l.length → numF (l ++ m) n = numF l n
  | 0, _, _, _ => by simp [numF]
  | n + 1, [], m, h => by simp at h
  | n + 1, a :: l, m, h => by simp only [List.cons_append, numF]; rw [numF_app n l m (by simpa using h)]
theorem numF_long : ∀ (n : Nat) (l : List UInt8) (c : UInt8), c.toNat = 97 → l.length ≤ n → numF (l ++ [c]) n = numF l n
  | 0, _, _, _, _ => by simp [numF]
  | n + 1, [], c, hc, _ => by
    simp only [List.nil_append, numF, hc]
    cases n <;> simp [numF]
  | n + 1, a :: l, c, hc, h => by simp only [List.cons_append, numF]; rw [numF_long n l c hc (by simpa using h)]
theorem digL_lt {l : List UInt8} (h : LowL l) (i : Nat) : digL l i < 26 := by
  unfold digL
  split
  · rename_i c hc; have := h c (List.mem_of_getElem? hc); omega
  · omega
/-- Like numbers have like digits. -/
theorem numF_dig {l m : List UInt8} (hl : LowL l) (hm : LowL m) : ∀ (n : Nat), numF l n = numF m n → ∀ i, i < n → digL l i = digL m i
  | 0, _, i, hi => by omega
  | n + 1, h, i, hi => by
    rw [numF_succ, numF_succ] at h
    have h1 := digL_lt hl n
    have h2 := digL_lt hm n
    rcases Nat.lt_or_eq_of_le (Nat.le_of_lt_succ hi) with h3 | h3
    · exact numF_dig hl hm n (by omega) i h3
    · subst h3; omega
/-- Like numbers, and long enough: the one begins the other. -/
theorem numF_begins {l t : List UInt8} (hl : LowL l) (ht : LowL t) (hlen : t.length ≤ l.length) (h : numF l t.length = numF t t.length) : l.take t.length = t := by
  apply List.ext_getElem (by simp; omega)
  intro i h1 h2
  have hd := numF_dig hl ht _ h i h2
  unfold digL at hd
  rw [List.getElem?_eq_getElem (by omega), List.getElem?_eq_getElem h2] at hd
  simp only at hd
  have a1 := hl l[i] (List.getElem_mem _)
  have a2 := ht t[i] (List.getElem_mem _)
  rw [List.getElem_take]
  apply UInt8.toNat_inj.1
  omega
theorem numF_short {l t : List UInt8} (hl : LowL l) (ht : LowL t) (hlen : l.length < t.length) (h : numF l t.length = numF t t.length) : numF t t.length % 26 = 0 := by
  obtain ⟨n, hn⟩ : ∃ n, t.length = n + 1 := ⟨t.length - 1, by omega⟩
  have hd := numF_dig hl ht _ h n (by omega)
  have h0 : digL l n = 0 := by unfold digL; rw [List.getElem?_eq_none (by omega)]
  rw [hn, numF_succ, ← hd, h0]
  omega
theorem less_app : ∀ (t r : List UInt8), Op.bytesLess (t ++ r) t = false
  | [], r => by cases r <;> rfl
  | c :: t, r => by
    have := less_app t r
    simp only [List.cons_append, Op.bytesLess]
    simp [this]
def hiOf (b : List UInt8) (n : Nat) : Option Nat := if b = [] then none else some (numF b n)
def begB (s t : List UInt8) : Bool := decide (s.length ≤ t.length) && decide (t.take s.length = s)
def fitB (s a b : List UInt8) : Bool := Op.bytesLess a s && (decide (b = []) || (Op.bytesLess s b && !begB s b))
/-- A text of n letters that does not end in a: it fits as its number does. -/
theorem fit_num {s a b : List UInt8} (hs : LowL s) (ha : LowL a) (hb : LowL b) (he : numF s s.length % 26 ≠ 0) : fitB s a b = okN (numF a s.length) (hiOf b s.length) (numF s s.length) := by
  have h1 : Op.bytesLess a s = decide (numF a s.length < numF s s.length) := by
    rcases Nat.lt_trichotomy (numF a s.length) (numF s s.length) with h | h | h
    · rw [decide_eq_true h]
      have := less_num [] hs ha h
      simpa using this
    · rw [decide_eq_false (by omega)]
      rcases Nat.lt_or_ge a.length s.length with h2 | h2
      · exact absurd (numF_short ha hs h2 h) he
      · have h3 := numF_begins ha hs h2 h
        have h4 := less_app s (a.drop s.length)
        rw [← h3, List.length_take, Nat.min_eq_left h2] at h4
        have h5 : a.take s.length ++ a.drop s.length = a := List.take_append_drop _ _
        rw [h5, h3] at h4
        exact h4
    · rw [decide_eq_false (by omega)]
      have := num_less [] hs ha h
      rw [List.append_nil] at this
      exact less_asymm _ _ this
  have h2 : (decide (b = []) || (Op.bytesLess s b && !begB s b)) = (match hiOf b s.length with | none => true | some h => decide (numF s s.length < h)) := by
    unfold hiOf
    by_cases hbe : b = []
    · subst hbe; simp
    · rw [if_neg hbe, decide_eq_false hbe, Bool.false_or]
      simp only
      rcases Nat.lt_trichotomy (numF s s.length) (numF b s.length) with h | h | h
      · rw [decide_eq_true h]
        have h3 := num_less [] hs hb h
        rw [List.append_nil] at h3
        have h4 : begB s b = false := by
          unfold begB
          rw [Bool.and_eq_false_iff]
          rcases Nat.lt_or_ge b.length s.length with h5 | h5
          · exact .inl (decide_eq_false (by omega))
          · refine .inr (decide_eq_false fun h6 => ?_)
            have h7 := numF_app s.length (b.take s.length) (b.drop s.length) (by simp; omega)
            rw [List.take_append_drop, h6] at h7
            omega
        rw [h3, h4]; rfl
      · rw [decide_eq_false (by omega)]
        rcases Nat.lt_or_ge b.length s.length with h2 | h2
        · exact absurd (numF_short hb hs h2 h.symm) he
        · have h3 := numF_begins hb hs h2 h.symm
          have : begB s b = true := by unfold begB; simp [h2, h3]
          rw [this]; simp
      · rw [decide_eq_false (by omega)]
        have := less_num [] hs hb h
        rw [List.append_nil] at this
        rw [less_asymm _ _ this]; rfl
  unfold fitB okN
  rw [h1, h2, decide_eq_true he]
  simp
/-- A text made n letters long. -/
def padL (c : UInt8) (s : List UInt8) (n : Nat) : List UInt8 := s ++ List.replicate (n - s.length) c
theorem padL_len {c : UInt8} {s : List UInt8} {n : Nat} (h : s.length ≤ n) : (padL c s n).length = n := by simp [padL]; omega
theorem padL_low {c : UInt8} {s : List UInt8} {n : Nat} (hs : LowL s) (hc : 97 ≤ c.toNat ∧ c.toNat ≤ 122) : LowL (padL c s n) := by
  intro x hx
  unfold padL at hx
  rcases List.mem_append.1 hx with h | h
  · exact hs x h
  · obtain ⟨_, rfl⟩ := List.mem_replicate.1 h; exact hc
theorem pad_num (c : UInt8) (s : List UInt8) : ∀ (r : Nat), numF (s ++ List.replicate r c) (s.length + r) = numF s s.length * 26 ^ r + numF (List.replicate r c) r
  | 0 => by simp [numF]
  | r + 1 => by
    have h1 := numF_succ (s ++ List.replicate (r + 1) c) (s.length + r)
    have h2 := numF_succ (List.replicate (r + 1) c) r
    have e1 : s ++ List.replicate (r + 1) c = (s ++ List.replicate r c) ++ [c] := by rw [List.replicate_succ', List.append_assoc]
    have e2 : numF (s ++ List.replicate (r + 1) c) (s.length + r) = numF (s ++ List.replicate r c) (s.length + r) := by
      rw [e1, numF_app _ _ _ (by simp)]
    have e3 : numF (List.replicate (r + 1) c) r = numF (List.replicate r c) r := by rw [List.replicate_succ', numF_app _ _ _ (by simp)]
    have e4 : digL (s ++ List.replicate (r + 1) c) (s.length + r) = digL (List.replicate (r + 1) c) r := by
      unfold digL
      rw [List.getElem?_append_right (by omega)]
      congr 2
      omega
    rw [show s.length + (r + 1) = s.length + r + 1 from rfl, h1, h2, e2, e3, e4, pad_num c s r, Nat.pow_succ, Nat.add_mul, Nat.mul_assoc]
    omega
theorem rep_a : ∀ (r : Nat), numF (List.replicate r (97 : UInt8)) r = 0
  | 0 => rfl
  | r + 1 => by
    rw [List.replicate_succ, numF, rep_a r]
    simp
theorem rep_z : ∀ (r : Nat), numF (List.replicate r (122 : UInt8)) r + 1 = 26 ^ r
  | 0 => rfl
  | r + 1 => by
    have h1 := rep_z r
    have h2 : (122 : UInt8).toNat - 97 = 25 := by decide
    rw [List.replicate_succ, numF, Nat.pow_succ, h2]
    omega
def mayB (s : List UInt8) (n : Nat) (a b : List UInt8) : Bool := Op.bytesLess a (padL 122 s n) && (decide (b = []) || Op.bytesLess (padL 97 s n) b)
def allB (s : List UInt8) (n : Nat) (a b : List UInt8) : Bool := Op.bytesLess a (padL 97 s n) && (decide (b = []) || (Op.bytesLess (padL 122 s n) b && !begB s b))
theorem pad_nums {s : List UInt8} {n r : Nat} (hn : s.length + r = n) : numF (padL 97 s n) n = numF s s.length * 26 ^ r ∧ numF (padL 122 s n) n + 1 = (numF s s.length + 1) * 26 ^ r := by
  subst hn
  unfold padL
  rw [show s.length + r - s.length = r by omega]
  have h1 := pad_num 97 s r
  have h2 := pad_num 122 s r
  have h3 := rep_a r
  have h4 := rep_z r
  rw [h1, h2, h3, Nat.add_mul, Nat.one_mul]
  omega
section
variable {s a b : List UInt8} {n r : Nat} (hs : LowL s) (ha : LowL a) (hb : LowL b) (hn : s.length + r = n)
include hs ha hb hn
theorem may_not (h : mayB s n a b = false) : ∀ x, numF s s.length * 26 ^ r ≤ x → x < (numF s s.length + 1) * 26 ^ r → okN (numF a n) (hiOf b n) x = false := by
  obtain ⟨p1, p2⟩ := pad_nums hn
  have l1 : (padL 97 s n).length = n := padL_len (by omega)
  have l2 : (padL 122 s n).length = n := padL_len (by omega)
  have w1 : LowL (padL 97 s n) := padL_low hs (by decide)
  have w2 : LowL (padL 122 s n) := padL_low hs (by decide)
  intro x x1 x2
  rw [← Bool.not_eq_true, okN_iff]
  rintro ⟨c1, c2, c3⟩
  unfold mayB at h
  rw [Bool.and_eq_false_iff] at h
  rcases h with h | h
  · have : ¬ numF a n < numF (padL 122 s n) n := fun hh => by
      have := less_num [] w2 ha (by rw [l2]; exact hh)
      rw [List.append_nil, h] at this; cases this
    omega
  · rw [Bool.or_eq_false_iff] at h
    have hbe : b ≠ [] := of_decide_eq_false h.1
    have : ¬ numF (padL 97 s n) n < numF b n := fun hh => by
      have := num_less [] w1 hb (by rw [l1]; exact hh)
      rw [List.append_nil, h.2] at this; cases this
    have := c2 (numF b n) (by unfold hiOf; rw [if_neg hbe])
    omega
theorem all_fit (h : allB s n a b = true) (h0 : 0 < r) : ∀ x, numF s s.length * 26 ^ r ≤ x → x < (numF s s.length + 1) * 26 ^ r → x % 26 ≠ 0 → okN (numF a n) (hiOf b n) x = true := by
  obtain ⟨p1, p2⟩ := pad_nums hn
  have l1 : (padL 97 s n).length = n := padL_len (by omega)
  have l2 : (padL 122 s n).length = n := padL_len (by omega)
  have w1 : LowL (padL 97 s n) := padL_low hs (by decide)
  have w2 : LowL (padL 122 s n) := padL_low hs (by decide)
  intro x x1 x2 x3
  unfold allB at h
  rw [Bool.and_eq_true] at h
  obtain ⟨h1, h2⟩ := h
  obtain ⟨q, rfl⟩ : ∃ q, r = q + 1 := ⟨r - 1, by omega⟩
  have hm : numF s s.length * 26 ^ (q + 1) % 26 = 0 := by rw [Nat.pow_succ, ← Nat.mul_assoc]; exact Nat.mul_mod_left _ _
  have hm2 : (numF s s.length + 1) * 26 ^ (q + 1) % 26 = 0 := by rw [Nat.pow_succ, ← Nat.mul_assoc]; exact Nat.mul_mod_left _ _
  rw [okN_iff]
  refine ⟨?_, fun hh e => ?_, x3⟩
  · have : ¬ numF (padL 97 s n) n < numF a n := fun hh => by
      have h3 := num_less [] w1 ha (by rw [l1]; exact hh)
      rw [List.append_nil] at h3
      rw [less_asymm _ _ h3] at h1; cases h1
    rcases Nat.lt_or_eq_of_le x1 with h4 | h4
    · omega
    · rw [← h4] at x3; exact absurd hm x3
  · unfold hiOf at e
    split at e
    · cases e
    rename_i hbe
    injection e with e
    subst e
    rw [decide_eq_false hbe, Bool.false_or, Bool.and_eq_true] at h2
    have : ¬ numF b n < numF (padL 122 s n) n := fun hh => by
      have h3 := less_num [] w2 hb (by rw [l2]; exact hh)
      rw [List.append_nil] at h3
      rw [less_asymm _ _ h3] at h2; cases h2.1
    rcases Nat.lt_or_ge x (numF b n) with h4 | h4
    · exact h4
    · exfalso
      have h5 : numF b n = numF (padL 122 s n) n := by omega
      have h6 : numF (padL 122 s n) (padL 122 s n).length % 26 ≠ 0 := by rw [l2]; omega
      rcases Nat.lt_or_ge b.length n with h7 | h7
      · exact h6 (numF_short hb w2 (by rw [l2]; exact h7) (by rw [l2]; exact h5))
      · have h8 := numF_begins hb w2 (by rw [l2]; exact h7) (by rw [l2]; exact h5)
        rw [l2] at h8
        have h9 : begB s b = true := by
          unfold begB
          rw [Bool.and_eq_true, decide_eq_true_iff, decide_eq_true_iff]
          refine ⟨by omega, ?_⟩
          have := congrArg (List.take s.length) h8
          rw [List.take_take, Nat.min_eq_left (by omega)] at this
          rw [this]
          unfold padL
          rw [List.take_append_of_le_length (Nat.le_refl _), List.take_length]
        rw [h9] at h2
        exact absurd h2.2 (by decide)
end
theorem hiOf_high {b : ByteArray} {n : Nat} : (∀ h, hiOf b.toList n = some h → high b n = (h : Int) - 1) ∧ (hiOf b.toList n = none → high b n = ((26 ^ n : Nat) : Int) - 1) := by
  have hl := toList_len b
  unfold hiOf high
  by_cases hb : b.toList = []
  · rw [if_pos hb]
    have : b.size = 0 := by rw [hb] at hl; simpa using hl.symm
    rw [if_pos this]
    exact ⟨fun h e => (by cases e), fun _ => rfl⟩
  · rw [if_neg hb]
    have : b.size ≠ 0 := fun h0 => hb (List.eq_nil_of_length_eq_zero (by omega))
    rw [if_neg this, numb_eq]
    exact ⟨fun h e => (by injection e with e; rw [e]), fun e => (by cases e)⟩
/-- The program's count is this one. -/
theorem many_cnt {a b : ByteArray} {n : Nat} (hb : LowL b.toList) : many a b n = (cntN (numb a n) (hiOf b.toList n) (26 ^ n) : Int) := by
  obtain ⟨h1, h2⟩ := hiOf_high (b := b) (n := n)
  cases hh : hiOf b.toList n with
  | none =>
    have e := h2 hh
    rw [cnt_eq _ (fun h e => by cases e)]
    unfold many upTo
    rw [e]
    have hp : 0 < 26 ^ n := Nat.pow_pos (by decide)
    generalize 26 ^ n = P at *
    split
    · omega
    · have : ((P : Int) - 1).toNat = P - 1 := by omega
      rw [this]; omega
  | some h =>
    have e := h1 h hh
    have hlt : h ≤ 26 ^ n := by
      unfold hiOf at hh
      split at hh
      · cases hh
      · injection hh with hh
        have := numF_lt hb n
        omega
    have e2 : cntN (numb a n) (some h) (26 ^ n) = cntN (numb a n) (some h) h := by
      have := cnt_none (low := numb a n) (hi := some h) (p := h) (26 ^ n - h) (fun x x1 x2 => by
        rw [← Bool.not_eq_true, okN_iff]
        rintro ⟨_, c, _⟩
        have := c h rfl; omega)
      rwa [show h + (26 ^ n - h) = 26 ^ n by omega] at this
    rw [e2, cnt_eq _ (fun h' e' => by injection e' with e'; omega)]
    unfold many upTo
    rw [e]
    split
    · omega
    · have : ((h : Int) - 1).toNat = h - 1 := by omega
      rw [this]; omega
/-- The number at a quarter: it fits, and just so many fit ahead of it. -/
theorem val_cnt {a b : ByteArray} {n : Nat} (h : 1 ≤ many a b n) : okN (numb a n) (hiOf b.toList n) (val a b n) = true ∧ (cntN (numb a n) (hiOf b.toList n) (val a b n) : Int) = (many a b n - 1) / 4 := by
  obtain ⟨p1, p2, p3⟩ := val_props h
  obtain ⟨h1, h2⟩ := hiOf_high (b := b) (n := n)
  have hle : ∀ h, hiOf b.toList n = some h → val a b n < h := fun k e => by have := h1 k e; omega
  refine ⟨okN_iff.2 ⟨p1, hle, p3⟩, ?_⟩
  rw [cnt_eq _ (fun k e => Nat.le_of_lt (hle k e))]
  have hlow : ¬ high b n < numb a n := fun h2 => by have := many_low h2; omega
  have hv := val_eq hlow (by omega)
  unfold upTo
  generalize val a b n = v at *
  generalize many a b n = M at *
  generalize numb a n = L at *
  omega
end Go.Proofs.YtngalkmmpjegkaaGreatDoor
/- A row of bytes that a text was turned into: bytes appended to it. Plain lemmas. Conditions: none. -/
namespace Go.Proofs.YtngalkmmpjegkaaGreatDoor
open Go.RowKit
set_option linter.unusedVariables false
theorem bs_at' {l : List UInt8} {k : Nat} (h : k < l.length) : (bs l)[k]? = some (.int .u8 l[k].toNat) := by simp [bs, h]
/-- A row of bytes in a block of the call's own, its spare free. -/
structure BRow (w : World) (B g n c : Nat) (l : List UInt8) : Prop where
  base : B ≤ g
  lt : g < w.heap.size
  len : l.length = n
  le : n ≤ c
  max : c ≤ maxLen
  cells : ∀ j (hj : j < l.length), w.cell? ⟨g, j, none⟩ = some (.int .u8 (l[j].toNat : Int))
  there : ∀ j, j < c → (w.cell? ⟨g, j, none⟩).isSome = true ∧ w.frozen? ⟨g, j, none⟩ = false
namespace BRow
variable {w w' : World} {B g n c : Nat} {l : List UInt8}
theorem below (h : BRow w B g n c l) (hb : Below w.heap.size w w') : BRow w' B g n c l :=
  ⟨h.base, Nat.lt_of_lt_of_le h.lt hb.size, h.len, h.le, h.max, fun j hj => (hb.cell h.lt).trans (h.cells j hj), fun j hj => ⟨by rw [hb.cell (p := ⟨g, j, none⟩) h.lt]; exact (h.there j hj).1, by rw [hb.frozen (p := ⟨g, j, none⟩) h.lt]; exact (h.there j hj).2⟩⟩
theorem mono {B' : Nat} (h : BRow w B g n c l) (hB : B' ≤ B) : BRow w B' g n c l := { h with base := Nat.le_trans hB h.base }
theorem came (h : BRow w B g n c l) : Came w 1 (some ⟨g, 0, none⟩) g 0 n c (bs l) := by
  refine ⟨h.le, fun _ => rfl, fun _ => h.lt, by rw [bs_len, h.len]; omega, fun j u hu => ?_, fun j hj => ?_⟩
  · by_cases hj : j < l.length
    · rw [bs_at' hj] at hu
      obtain rfl := Option.some.inj hu
      rw [Nat.zero_add]
      exact h.cells j hj
    · rw [List.getElem?_eq_none (by rw [bs_len]; omega)] at hu; cases hu
  · have := h.there (0 + n * 1 + j) (by omega)
    exact this
theorem reads (h : BRow w B g n c l) : Reads w w.heap.size 1 (some ⟨g, 0, none⟩) n (bs l) := by
  refine ⟨by rw [bs_len, h.len]; omega, fun _ => ⟨_, rfl, h.lt, fun j u hu => ?_⟩⟩
  by_cases hj : j < l.length
  · rw [bs_at' hj] at hu
    obtain rfl := Option.some.inj hu
    have e1 : (⟨g, 0, none⟩ : Addr).add j = ⟨g, j, none⟩ := by
      unfold Addr.add
      by_cases hj : j = 0 <;> simp [hj]
    rw [e1]
    exact h.cells j hj
  · rw [List.getElem?_eq_none (by rw [bs_len]; omega)] at hu; cases hu
/-- The row as a text. -/
theorem text (h : BRow w B g n c l) : (convert 93 9 (.slice (some ⟨g, 0, none⟩) n c)).run Tryz.prog w = .ok (.string (strOf l)) w := by
  have := h.len
  subst this
  refine run_convert_bytes_back (P := Tryz.prog) w 93 9 5 ⟨g, 0, none⟩ c l Tryz.underlying93 Tryz.underlying5 Tryz.underlying9 (fun j hj => ?_)
  have e1 : (⟨g, 0, none⟩ : Addr).add j = ⟨g, j, none⟩ := by
    unfold Addr.add
    by_cases hj : j = 0 <;> simp [hj]
  rw [e1]
  exact h.cells j hj
end BRow
/-- A text turned into bytes. -/
theorem conv_row (w : World) (s : ByteArray) (hs : s.size ≤ 1000000) : ∃ C w', (convert 9 93 (.string s)).run Tryz.prog w = .ok (.slice (some ⟨w.heap.size, 0, none⟩) s.size C) w' ∧ BRow w' w.heap.size w.heap.size s.size C s.toList ∧ Below w.heap.size w w' := by
  have hr := run_bytes_of_string (P := Tryz.prog) w 9 93 5 s Tryz.underlying9 Tryz.underlying93 Tryz.underlying5
  refine ⟨_, _, hr, ?_, (Below.refl _ _).drew.alloc (Nat.le_refl _) _⟩
  have hge := grownCap_ge w s.size 0 5
  have hcm := grownCap_le_maxLen w s.size 0 5 (by unfold maxLen; omega)
  have hb : (w.drew.alloc (.cells (bytesRow s (grownCap w s.size 0 5)) 5 ((bytesRow s (grownCap w s.size 0 5)).size, (bytesRow s (grownCap w s.size 0 5)).size + 1))).heap[w.heap.size]? = some (.cells (bytesRow s (grownCap w s.size 0 5)) 5 ((bytesRow s (grownCap w s.size 0 5)).size, (bytesRow s (grownCap w s.size 0 5)).size + 1)) := heap_alloc_new w.drew _
  have hsz : (bytesRow s (grownCap w s.size 0 5)).size = grownCap w s.size 0 5 := by
    unfold bytesRow
    rw [Array.size_append, Array.size_map, Array.size_replicate]
    have : s.data.size = s.size := rfl
    omega
  refine ⟨Nat.le_refl _, by simp, toList_len s, hge, hcm, fun j hj => ?_, fun j hj => ⟨?_, ?_⟩⟩
  · have hj' : j < s.size := by rw [toList_len] at hj; exact hj
    rw [cell_of_row _ w.heap.size j _ _ _ hb, bytesRow_at s _ j hj']
    have e2 : s.toList[j] = s[j] := by simp [ByteArray.toList_eq]; rfl
    rw [e2]
    rfl
  · rw [cell_of_row _ w.heap.size j _ _ _ hb, Array.getElem?_eq_getElem (by rw [hsz]; exact hj)]
    rfl
  · unfold World.frozen?
    rw [hb]
    simp only [hsz]
    rw [Bool.and_eq_false_iff]
    exact .inl (decide_eq_false (by omega))
theorem setCells_tape (w : World) (g : Nat) : ∀ (o : Nat) (vs : List Value), (w.setCells g o vs).tape = w.tape := by
  intro o vs
  induction vs generalizing w o with
  | nil => rfl
  | cons v vs ih => exact (ih _ _).trans rfl
set_option maxRecDepth 100000 in
/-- Bytes appended to such a row. -/
theorem run_bytes {w : World} {B g n c : Nat} {l : List UInt8} (h : BRow w B g n c l) (hB : B ≤ w.heap.size) (ty : TypeId) {B' : Nat} {A : Option Addr} {m cm : Nat} {news : List UInt8} (hr : Reads w B' 1 A m (bs news)) (hm : 0 < m) (hn : n + m ≤ 1000000) :
    ∃ g' c' w', (Builtin.append_ #[93, 93] ty #[.slice (some ⟨g, 0, none⟩) n c, .slice A m cm]).run Tryz.prog w = .ok (.slice (some ⟨g', 0, none⟩) (n + m) c') w' ∧ BRow w' B g' (n + m) c' (l ++ news) ∧ Only [g] w w' ∧ (g' = g ∨ w.heap.size ≤ g') := by
  obtain ⟨ht, ⟨i, z, hi, hz, hsize, hby, hzs⟩, hsz⟩ := elemB
  obtain ⟨ad, rfl, hab, hac⟩ := hr.2 hm
  have hsrc : Src Tryz.prog 1 93 (.slice (some ad) m cm) m (bs news) w := Src.ofSlice w ht ad m cm (bs news) hr.1 hac (oneCells_bs news)
  have hlen : n + 0 + m ≤ maxLen := by unfold maxLen; omega
  obtain ⟨v', w', hrun, hu⟩ := run_append_upon (P := Tryz.prog) h.came 93 93 ty i z 1 ht hi hz hsize hby hzs (Upon.start h.came) (.slice (some ad) m cm) m (bs news) hsrc hlen (by omega)
  rw [Nat.zero_add, List.nil_append] at hu
  have hnl : news.length = m := by have := hr.1; rw [bs_len] at this; omega
  have happ : bs l ++ bs news = bs (l ++ news) := bs_append l news
  have htape : w'.tape = w.tape := by
    have hsrc' : Src Tryz.prog i.size 93 (.slice (some ad) m cm) m (bs news) w := by rw [hsize]; exact hsrc
    by_cases hroom : n + m ≤ c
    · have h2 := run_append_room_src (P := Tryz.prog) (w := w) 93 93 ty 5 i ht hi g 0 n c (.slice (some ad) m cm) m (bs news) hsrc' hroom (fun j hj => by
        rw [bs_len, hnl] at hj
        exact (h.there (0 + n * i.size + j) (by rw [hsize]; omega)).1) (fun j hj => by
        rw [bs_len, hnl] at hj
        exact (h.there (0 + n * i.size + j) (by rw [hsize]; omega)).2)
      rw [hrun] at h2
      injection h2 with _ hw
      rw [hw]
      exact setCells_tape _ _ _ _
    · have hold := run_firstCells_some (P := Tryz.prog) w.drew i.size n ⟨g, 0, none⟩ n c (bs l) (by rw [bs_len, h.len, hsize]; omega) (fun j u hu => by
        have hrd := h.reads.2 (by
          rcases Nat.eq_zero_or_pos n with h0 | h0
          · rw [List.eq_nil_of_length_eq_zero (l := bs l) (by rw [bs_len, h.len, h0])] at hu; simp at hu
          · exact h0)
        obtain ⟨ad', e, _, hc⟩ := hrd
        injection e with e
        subst e
        exact hc j u hu)
      have h2 := run_append_grow_src (P := Tryz.prog) w 93 93 ty 5 i z ht hi hz (some ⟨g, 0, none⟩) n c (bs l) hold (.slice (some ad) m cm) m (bs news) hsrc' (by omega) (by omega) (growslice_fits (by omega) (by rw [hby]; omega))
      rw [hrun] at h2
      injection h2 with _ hw
      rw [hw]
      rfl
  have honly : Only [g] w w' := ⟨hu.kept.1, htape, hu.kept.2.1, hu.kept.size, fun k hk hne => hu.kept.block hk (fun p ⟨j, _, e⟩ hp => hne (by rw [e] at hp; exact List.mem_singleton.2 (show k = g from hp.symm)))⟩
  rcases hu.val with ⟨h1, rfl, h3⟩ | ⟨h1, g', c', rfl, ho⟩
  · refine ⟨g, c, w', hrun, ⟨h.base, Nat.lt_of_lt_of_le h.lt hu.kept.size, by rw [List.length_append, h.len, hnl], by omega, h.max, fun j hj => ?_, fun j hj => ⟨?_, ?_⟩⟩, honly, .inl rfl⟩
    · have := hu.inArray h.came (by omega) h3 j (by rw [List.length_append, h.len, hnl] at hj; omega)
      rw [Nat.zero_add, happ, bs_at' hj] at this
      exact this
    · by_cases hj2 : j < (n + m) * 1
      · have := hu.inArray h.came (by omega) h3 j hj2
        rw [Nat.zero_add] at this
        rw [this, happ, bs_at' (by rw [List.length_append, h.len, hnl]; omega)]
        rfl
      · rw [hu.old h.lt (fun j' hj' ⟨_, e⟩ => by have := hu.rLe; rw [bs_len] at this; omega)]
        exact (h.there j hj).1
    · rw [hu.frozen ⟨g, j, none⟩ h.lt]
      exact (h.there j hj).2
  · refine ⟨g', c', w', hrun, ⟨Nat.le_trans hB ho.new, ?_, by rw [List.length_append, h.len, hnl], ho.le, ho.max, fun j hj => ?_, fun j hj => ?_⟩, honly, .inr ho.new⟩
    · have := (ho.there 0 (by have := ho.le; omega)).1
      obtain ⟨u, hu2⟩ := Option.isSome_iff_exists.1 this
      exact World.block_lt_of_cell? _ _ hu2
    · have := ho.holds j (by rw [List.length_append, h.len, hnl] at hj; omega)
      rw [happ, bs_at' hj] at this
      exact this
    · exact ho.there j (by omega)
theorem wpList_bytes {ops : Array Oper} {rest : List Oper} {o : Oper} {a : Act} {Q : Exit → Act → World → Prop} {w : World} (s x : Operand) (hgd : o.guard = none)
    (ho : o.op = .call { callee := .builtin .append, args := #[s, x], argTypes := #[93, 93] })
    {B g n c : Nat} {l : List UInt8} (hs : a.eval s = .slice (some ⟨g, 0, none⟩) n c) {B' : Nat} {A : Option Addr} {m cm : Nat} {news : List UInt8} (hx : a.eval x = .slice A m cm)
    (h : BRow w B g n c l) (hB : B ≤ w.heap.size) (hr : Reads w B' 1 A m (bs news)) (hm : 0 < m) (hn : n + m ≤ 1000000)
    (hK : ∀ g' c' w', BRow w' B g' (n + m) c' (l ++ news) → Only [g] w w' → (g' = g ∨ w.heap.size ≤ g') → wpList Tryz.prog ops Q rest (a.put o.dst (.slice (some ⟨g', 0, none⟩) (n + m) c')) w') : wpList Tryz.prog ops Q (o :: rest) a w := by
  refine wpList_plain hgd fun K hK' => ?_
  obtain ⟨g', c', w', hrun, h1, h2, h3⟩ := run_bytes h hB o.type hr (cm := cm) hm hn
  unfold Oper.wp execOp
  simp only [ho, resolve, invoke, builtin, Sem.run_bind, Sem.run_pure, Result.andThen_ok, List.map_toArray, List.map_cons, List.map_nil, hs, hx, hrun]
  exact hK' _ _ (hK g' c' w' h1 h2 h3)
end Go.Proofs.YtngalkmmpjegkaaGreatDoor
/- leafref1.begins, fits, may, walked. Conditions: the texts are short. -/
namespace Go.Proofs.YtngalkmmpjegkaaGreatDoor
open Go.RowKit
set_option linter.unusedVariables false
theorem emp_iff (b : ByteArray) : b.toList.isEmpty = decide (b.toList = []) := by
  cases b.toList <;> simp
/-- Three ways two texts stand. -/
theorem three (x y : List UInt8) : (Op.bytesLess x y = true ∧ Op.bytesLess y x = false ∧ (y == x) = false) ∨ (Op.bytesLess x y = false ∧ Op.bytesLess y x = true ∧ (y == x) = false) ∨ (Op.bytesLess x y = false ∧ Op.bytesLess y x = false ∧ (y == x) = true) := by
  have total : ∀ (x y : List UInt8), Op.bytesLess x y = false → Op.bytesLess y x = false → y = x := by
    intro x
    induction x with
    | nil => intro y h1 h2; cases y with
      | nil => rfl
      | cons c t => simp [Op.bytesLess] at h1
    | cons d u ih =>
      intro y h1 h2
      cases y with
      | nil => simp [Op.bytesLess] at h2
      | cons c t =>
        simp only [Op.bytesLess] at h1 h2
        by_cases hdc : d = c
        · subst hdc
          simp at h1 h2
          rw [ih t h1 h2]
        · exfalso
          have hc : ¬ c = d := fun h => hdc h.symm
          rcases Nat.lt_trichotomy d.toNat c.toNat with h | h | h
          · have : d < c := h
            simp [this] at h1
          · exact hdc (UInt8.toNat_inj.1 h)
          · have : c < d := h
            simp [this] at h2
  cases h1 : Op.bytesLess x y with
  | true =>
    refine .inl ⟨rfl, less_asymm _ _ h1, ?_⟩
    rw [beq_eq_false_iff_ne]
    intro h; subst h
    rw [less_irrefl] at h1; cases h1
  | false =>
    cases h2 : Op.bytesLess y x with
    | true =>
      refine .inr (.inl ⟨rfl, rfl, ?_⟩)
      rw [beq_eq_false_iff_ne]
      intro h; subst h
      rw [less_irrefl] at h2; cases h2
    | false => exact .inr (.inr ⟨rfl, rfl, by rw [beq_iff_eq]; exact total _ _ h1 h2⟩)
theorem ext_take (t : ByteArray) (n : Nat) (h : n ≤ t.size) : (t.extract 0 n).toList = t.toList.take n := by
  rw [ByteArray.toList_eq, ByteArray.toList_eq, ByteArray.data_extract, Array.toList_extract]
  simp
set_option maxRecDepth 100000 in
theorem rbegins_any (w : World) (s t : ByteArray) (hs : s.size ≤ 1000000) (ht : t.size ≤ 1000000) : Calls Tryz.prog 164 #[.string s, .string t] w (fun e w' => e = .returned (.bool (begB s.toList t.toList)) ∧ w' = w) := by
  have hl1 := toList_len s
  have hl2 := toList_len t
  by_cases h : s.size ≤ t.size
  · have HE : Hid (begB s.toList t.toList = ((t.extract 0 s.size).toList == s.toList)) := by
      show _ = _
      unfold begB
      rw [ext_take _ _ h, hl1, hl2, decide_eq_true h, Bool.true_and, Bool.eq_iff_iff, decide_eq_true_iff, beq_iff_eq]
    have h1 : (s.size : Int) ≤ (t.size : Int) := by omega
    have h2 : (0 : Int) ≤ (s.size : Int) := by omega
    have h3 : (s.size : Int).toNat = s.size := by omega
    clear hl1 hl2
    go_enter Tryz.func164, Tryz.ntmps164
    go_wp2_with fail
    go_ret
    exact ⟨by rw [HE.out]; rfl, rfl⟩
  · have HE : Hid (begB s.toList t.toList = false) := by
      show _ = _
      unfold begB
      rw [decide_eq_false (by omega)]; rfl
    have h1 : ¬ (s.size : Int) ≤ (t.size : Int) := by omega
    clear hl1 hl2
    go_enter Tryz.func164, Tryz.ntmps164
    go_wp2_with fail
    go_ret
    exact ⟨by rw [HE.out]; rfl, rfl⟩
set_option maxRecDepth 100000 in
theorem rfits_any (w : World) (s a b : ByteArray) (hs : s.size ≤ 1000000) (hb : b.size ≤ 1000000) : Calls Tryz.prog 163 #[.string s, .string a, .string b] w (fun e w' => e = .returned (.bool (fitB s.toList a.toList b.toList)) ∧ w' = w) := by
  have HB := Lib.hid (rbegins_any w s b hs hb)
  have HF : Hid (fitB s.toList a.toList b.toList = (Op.bytesLess a.toList s.toList && (b.toList.isEmpty || (Op.bytesLess s.toList b.toList && !begB s.toList b.toList)))) := by
    show _ = _
    unfold fitB
    rw [emp_iff]
  generalize begB s.toList b.toList = bb at *
  have key : ∀ (x1 x2 x3 : Bool), Op.bytesLess a.toList s.toList = x1 → b.toList.isEmpty = x2 → Op.bytesLess s.toList b.toList = x3 → Calls Tryz.prog 163 #[.string s, .string a, .string b] w (fun e w' => e = .returned (.bool (x1 && (x2 || (x3 && !bb)))) ∧ w' = w) := by
    intro x1 x2 x3 e1 e2 e3
    rcases three a.toList s.toList with ⟨f1, f2, f3⟩ | ⟨f1, f2, f3⟩ | ⟨f1, f2, f3⟩ <;> rw [e1] at f1 <;> subst f1 <;> cases x2 <;> cases x3 <;> cases bb
    all_goals
      go_enter Tryz.func163, Tryz.ntmps163
      go_wp2_with fail
      refine HB.out.mono ?_
      rintro e w1 ⟨rfl, hw⟩
      obtain rfl := hw.symm
      go_wp2_with fail
      go_ret
      exact ⟨rfl, rfl⟩
  have := key _ _ _ rfl rfl rfl
  rw [← HF.out] at this
  exact this
end Go.Proofs.YtngalkmmpjegkaaGreatDoor
/- leafref1.may, walked. Conditions: the texts are short. -/
namespace Go.Proofs.YtngalkmmpjegkaaGreatDoor
open Go.RowKit
set_option linter.unusedVariables false
theorem app_list (x y : ByteArray) : (x ++ y).toList = x.toList ++ y.toList := by
  simp [ByteArray.toList_eq]
def PadLoop (w : World) (s : ByteArray) (r : Nat) (v9 v10 : Value) (wr : World) : Prop :=
  ∃ (j : Nat) (lo hi : ByteArray), j ≤ r ∧ v9 = .string lo ∧ v10 = .string hi ∧ Hid (lo.toList = s.toList ++ List.replicate j 97) ∧ Hid (hi.toList = s.toList ++ List.replicate j 122) ∧ lo.size = s.size + j ∧ Hid (wr = w)
theorem pad_next {s x : ByteArray} {c : UInt8} {j : Nat} (h : x.toList = s.toList ++ List.replicate j c) : (x ++ ⟨#[c]⟩).toList = s.toList ++ List.replicate (j + 1) c := by
  rw [app_list, h, List.replicate_succ', List.append_assoc]
  congr 1
  simp [ByteArray.toList_eq]
theorem size_of {x : ByteArray} {l : List UInt8} (h : x.toList = l) : x.size = l.length := by rw [← h, toList_len]
set_option maxRecDepth 100000 in
set_option maxHeartbeats 2000000 in
theorem rmay_any (w : World) (s a b : ByteArray) (r : Nat) (hn : s.size + r ≤ 11) : Calls Tryz.prog 162 #[.string s, .int .i64 ((s.size + r : Nat) : Int), .string a, .string b] w (fun e w' => e = .returned (.bool (mayB s.toList (s.size + r) a.toList b.toList)) ∧ w' = w) := by
  generalize hN : s.size + r = N at *
  have HN := Lib.hid hN
  clear hN
  go_enter Tryz.func162, Tryz.ntmps162
  go_wp2_with fail
  go_loopw [9, 10] (fun v9 v10 wr => PadLoop w s r v9 v10 wr) (fun v9 _ _ => match v9 with | .string x => 11 - x.size | _ => 0)
  case atStart => exact ⟨0, s, s, by omega, rfl, rfl, by show _ = _; simp, by show _ = _; simp, rfl, rfl⟩
  case round =>
    obtain ⟨j, lo, hi, hj, rfl, rfl, HLO, HHI, hsz, HW⟩ := hrel
    have HSZ := Lib.hid hsz
    have h2 : hi.size = s.size + j := by rw [size_of HHI.out]; simp [toList_len]
    have HS2 := Lib.hid h2
    clear h2 hsz
    by_cases hjr : j < r
    · have k1 : (lo.size : Int) < (N : Int) := by have := HSZ.out; have := HN.out; omega
      have hc1 : ∀ W, (Op.stringOp .add lo ⟨#[97]⟩).run Tryz.prog W = .ok (.string (lo ++ ⟨#[97]⟩)) W := fun W => run_string_add_sum _ _ _ (by have := HSZ.out; have := HN.out; show lo.size + 1 ≤ _; omega)
      have hc2 : ∀ W, (Op.stringOp .add hi ⟨#[122]⟩).run Tryz.prog W = .ok (.string (hi ++ ⟨#[122]⟩)) W := fun W => run_string_add_sum _ _ _ (by have := HS2.out; have := HN.out; show hi.size + 1 ≤ _; omega)
      go_wp2_with fail
      go_roundw
      case rel => exact ⟨j + 1, lo ++ (⟨#[97]⟩ : ByteArray), hi ++ (⟨#[122]⟩ : ByteArray), by omega, rfl, rfl, Lib.hid (pad_next HLO.out), Lib.hid (pad_next HHI.out), by rw [size_of (pad_next HLO.out)]; simp [toList_len], HW⟩
      case measure =>
        have h3 : (lo ++ ⟨#[97]⟩ : ByteArray).size = lo.size + 1 := by rw [size_of (pad_next HLO.out), HSZ.out]; simp [toList_len]; omega
        show 11 - (lo ++ ⟨#[97]⟩ : ByteArray).size < 11 - lo.size
        have := HSZ.out; have := HN.out; omega
    · have k1 : ¬ (lo.size : Int) < (N : Int) := by have := HSZ.out; have := HN.out; omega
      have hjr' : j = r := by omega
      have HF : Hid (mayB s.toList N a.toList b.toList = (Op.bytesLess a.toList hi.toList && (b.toList.isEmpty || Op.bytesLess lo.toList b.toList))) := by
        show _ = _
        unfold mayB padL
        rw [emp_iff, HLO.out, HHI.out, toList_len, ← HN.out, hjr', show s.size + r - s.size = r by omega]
      rw [HW.out]
      clear hjr hjr' HLO HHI HW HSZ HS2
      obtain ⟨x1, e1⟩ : ∃ x, Op.bytesLess a.toList hi.toList = x := ⟨_, rfl⟩
      obtain ⟨x2, e2⟩ : ∃ x, b.toList.isEmpty = x := ⟨_, rfl⟩
      obtain ⟨x3, e3⟩ : ∃ x, Op.bytesLess lo.toList b.toList = x := ⟨_, rfl⟩
      rw [e1, e2, e3] at HF
      rcases three a.toList hi.toList with ⟨f1, f2, f3⟩ | ⟨f1, f2, f3⟩ | ⟨f1, f2, f3⟩ <;> rw [e1] at f1 <;> subst f1 <;> cases x2 <;> cases x3
      all_goals
        go_wp2_with fail
        go_ret
        exact ⟨by rw [HF.out]; rfl, rfl⟩
end Go.Proofs.YtngalkmmpjegkaaGreatDoor
/- leafref1.many, walked: to count letter by letter is to reckon with numbers. Conditions: the texts are places, or empty. -/
namespace Go.Proofs.YtngalkmmpjegkaaGreatDoor
open Go.RowKit
set_option linter.unusedVariables false
/-- How many texts of so many letters that begin so fit. -/
def rcount (a b : ByteArray) (n r v : Nat) : Nat := cntN (numb a n) (hiOf b.toList n) ((v + 1) * 26 ^ r) - cntN (numb a n) (hiOf b.toList n) (v * 26 ^ r)
section
variable {a b : ByteArray} {n : Nat}
theorem rcount_le (r v : Nat) : cntN (numb a n) (hiOf b.toList n) (v * 26 ^ r) + rcount a b n r v = cntN (numb a n) (hiOf b.toList n) ((v + 1) * 26 ^ r) := by
  have := cnt_mono (low := numb a n) (hi := hiOf b.toList n) (show v * 26 ^ r ≤ (v + 1) * 26 ^ r from Nat.mul_le_mul_right _ (Nat.le_succ v))
  unfold rcount; omega
theorem cnt_le (low : Nat) (hi : Option Nat) : ∀ x, cntN low hi x ≤ x
  | 0 => Nat.le_refl _
  | x + 1 => by
    have := cnt_le low hi x
    rw [cntN]
    split <;> omega
theorem rcount_none (la : LowL a.toList) (lb : LowL b.toList) {s : List UInt8} (hs : LowL s) {r : Nat} (hn : s.length + r = n) (h : mayB s n a.toList b.toList = false) : rcount a b n r (numF s s.length) = 0 := by
  have h1 := may_not hs la lb hn h
  rw [← numb_eq] at h1
  have h2 := cnt_none (low := numb a n) (hi := hiOf b.toList n) (p := numF s s.length * 26 ^ r) (26 ^ r) (fun x x1 x2 => h1 x x1 (by rw [Nat.add_mul, Nat.one_mul]; exact x2))
  unfold rcount
  rw [Nat.add_mul, Nat.one_mul, h2]; omega
theorem rcount_all (la : LowL a.toList) (lb : LowL b.toList) {s : List UInt8} (hs : LowL s) {r : Nat} (hn : s.length + (r + 1) = n) (h : allB s n a.toList b.toList = true) : rcount a b n (r + 1) (numF s s.length) = 25 * 26 ^ r := by
  have h1 := all_fit hs la lb hn h (by omega)
  rw [← numb_eq] at h1
  have e : 26 ^ (r + 1) = 26 * 26 ^ r := by rw [Nat.pow_succ, Nat.mul_comm]
  have h2 := cnt_all (low := numb a n) (hi := hiOf b.toList n) (p := numF s s.length * 26 ^ (r + 1)) (by rw [Nat.pow_succ, ← Nat.mul_assoc]; exact Nat.mul_mod_left _ _) (26 ^ r) (fun x x1 x2 => h1 x x1 (by rw [Nat.add_mul, Nat.one_mul, e]; rw [e] at x2; exact x2))
  unfold rcount
  rw [Nat.add_mul, Nat.one_mul, show numF s s.length * 26 ^ (r + 1) + 26 ^ (r + 1) = numF s s.length * 26 ^ (r + 1) + 26 * 26 ^ r by rw [← e], h2]; omega
theorem rcount_one (la : LowL a.toList) (lb : LowL b.toList) {s : List UInt8} (hs : LowL s) (hn : s.length = n) : rcount a b n 0 (numF s s.length) = if okN (numb a n) (hiOf b.toList n) (numF s s.length) = true then 1 else 0 := by
  unfold rcount
  simp only [Nat.pow_zero, Nat.mul_one]
  rw [cntN]
  omega
/-- The letters up to the j-th. -/
theorem rcount_sum (r v j : Nat) : cntN (numb a n) (hiOf b.toList n) ((26 * v + j) * 26 ^ r) + rcount a b n r (26 * v + j) = cntN (numb a n) (hiOf b.toList n) ((26 * v + (j + 1)) * 26 ^ r) := by
  have := rcount_le (a := a) (b := b) (n := n) r (26 * v + j)
  rw [show 26 * v + (j + 1) = 26 * v + j + 1 from rfl]
  exact this
theorem span_eq (r v : Nat) : v * 26 ^ (r + 1) = (26 * v + 0) * 26 ^ r ∧ (v + 1) * 26 ^ (r + 1) = (26 * v + 26) * 26 ^ r := by
  rw [Nat.pow_succ]
  constructor
  · rw [Nat.add_zero, Nat.mul_comm 26 v, Nat.mul_assoc, Nat.mul_comm 26]
  · rw [show 26 * v + 26 = 26 * (v + 1) from by omega, Nat.mul_comm 26 (v + 1), Nat.mul_assoc, Nat.mul_comm 26]
end
theorem snoc_num (s : List UInt8) (c : UInt8) : numF (s ++ [c]) (s ++ [c]).length = 26 * numF s s.length + (c.toNat - 97) := by
  have := numF_snoc s c
  rw [List.length_append, List.length_cons, List.length_nil]
  rw [this]; omega
theorem last_mod {s : List UInt8} (hs : LowL s) {x : UInt8} {t : List UInt8} (h : s = t ++ [x]) : (numF s s.length % 26 ≠ 0 ↔ x.toNat ≠ 97) := by
  subst h
  rw [snoc_num]
  have := hs x (by simp)
  omega
theorem pow_le (r : Nat) (h : r ≤ 11) : 26 ^ r ≤ 3670344486987776 := pow26_le h
def PadCut (w : World) (s : ByteArray) (n : Nat) (v10 v11 : Value) (wx : World) : Prop :=
  ∃ (lo hi : ByteArray), v10 = .string lo ∧ v11 = .string hi ∧ Hid (lo.toList = padL 97 s.toList n) ∧ Hid (hi.toList = padL 122 s.toList n) ∧ Hid (wx = w)
def MulLoop (w : World) (z r : Nat) (v13 v14 : Value) (wr : World) : Prop :=
  ∃ j : Nat, j ≤ r ∧ v13 = .int .i64 ((25 * 26 ^ j : Nat) : Int) ∧ v14 = .int .i64 ((z + 1 + j : Nat) : Int) ∧ Hid (wr = w)
def SumLoop (w : World) (low : Nat) (hi : Option Nat) (r v : Nat) (v15 v16 : Value) (wr : World) : Prop :=
  ∃ (j q : Nat), j ≤ 26 ∧ v15 = .int .i64 (q : Int) ∧ v16 = .int .i64 ((97 + j : Nat) : Int) ∧ Hid (cntN low hi ((26 * v + 0) * 26 ^ r) + q = cntN low hi ((26 * v + j) * 26 ^ r)) ∧ Hid (Below w.heap.size w wr)
theorem rmay_any' (w : World) (s a b : ByteArray) (n : Nat) (h : s.size ≤ n) (hn : n ≤ 11) : Calls Tryz.prog 162 #[.string s, .int .i64 (n : Int), .string a, .string b] w (fun e w' => e = .returned (.bool (mayB s.toList n a.toList b.toList)) ∧ w' = w) := by
  have := rmay_any w s a b (n - s.size) (by omega)
  rwa [show s.size + (n - s.size) = n by omega] at this
set_option maxRecDepth 100000 in
set_option maxHeartbeats 2000000 in
/-- All letters are there. -/
theorem rmany_last (w : World) (a b s : ByteArray) (la : Letters a) (lb : Letters b) (sa : a.size ≤ 12) (sb : b.size ≤ 12) (hs : LowL s.toList) (h1 : 1 ≤ s.size) (h11 : s.size ≤ 11) :
    Calls Tryz.prog 136 #[.string s, .int .i64 (s.size : Int), .string a, .string b] w (CheckPost w (.int .i64 (rcount a b s.size 0 (numF s.toList s.size) : Int))) := by
  have LA := low_of la
  have LB := low_of lb
  have hl := toList_len s
  have HM := Lib.hid (rmay_any' w s a b s.size (Nat.le_refl _) h11)
  have HF := Lib.hid (rfits_any w s a b (by omega) (by omega))
  have hone := rcount_one (a := a) (b := b) (n := s.size) LA LB hs hl
  rw [hl] at hone
  have hnone := fun h => rcount_none (a := a) (b := b) (n := s.size) LA LB hs (r := 0) (by rw [hl]; rfl) h
  have hfitN := fun h => fit_num hs LA LB h
  rw [hl, ← numb_eq a] at hfitN
  rw [hl] at hnone
  obtain ⟨m, hm⟩ : ∃ m, s.size = m + 1 := ⟨s.size - 1, by omega⟩
  have hx : m < s.size := by omega
  have hmod : numF s.toList s.size % 26 ≠ 0 ↔ s[m].toNat ≠ 97 := by
    have h2 : s.toList = s.toList.take m ++ [s.toList[m]'(by omega)] := by
      have h3 := List.take_succ_eq_append_getElem (l := s.toList) (i := m) (by omega)
      rw [← h3, List.take_of_length_le (by omega)]
    have h4 : numF s.toList s.toList.length % 26 ≠ 0 ↔ (s.toList[m]'(by omega)).toNat ≠ 97 := last_mod hs h2
    have e2 : s.toList[m]'(by omega) = s[m] := by simp [ByteArray.toList_eq]; rfl
    have e3 : numF s.toList s.toList.length = numF s.toList s.size := by rw [hl]
    rw [e3, e2] at h4
    exact h4
  obtain ⟨bm, hbm⟩ : ∃ x, mayB s.toList s.size a.toList b.toList = x := ⟨_, rfl⟩
  obtain ⟨bf, hbf⟩ : ∃ x, fitB s.toList a.toList b.toList = x := ⟨_, rfl⟩
  have hz : rcount a b s.size 0 (numF s.toList s.size) = if bm = true ∧ bf = true ∧ s[m].toNat ≠ 97 then 1 else 0 := by
    by_cases h5 : s[m].toNat ≠ 97
    · cases hb : bm with
      | false => rw [hnone (by rw [hbm, hb])]; simp
      | true =>
        rw [hone, ← hfitN (hmod.2 h5), hbf]
        simp [h5]
    · rw [if_neg (fun h => h5 h.2.2), hone, if_neg]
      rw [okN_iff]
      rintro ⟨_, _, h6⟩
      exact h5 (hmod.1 h6)
  have HZ := Lib.hid hz
  rw [hbm] at HM
  rw [hbf] at HF
  have q1 : IntKind.i64.wrap ((s.size : Int) - 1) = (m : Int) := by rw [IntWalk.i64_in _ (by omega)]; omega
  have m0 : (0 : Int) ≤ (m : Int) := by omega
  have m1 : (m : Int) < (s.size : Int) := by omega
  have m2 : (m : Int).toNat = m := by omega
  have HX := Lib.hid hm
  clear hz hone hnone hfitN hmod hl LA LB la lb hs hbm hbf hm
  cases bm with
  | false =>
    go_enter Tryz.func136, Tryz.ntmps136
    go_wp2_with fail
    refine HM.out.mono ?_
    rintro e w1 ⟨rfl, hw⟩
    obtain rfl := hw.symm
    go_wp2_with fail
    go_ret
    exact ⟨by rw [HZ.out]; rfl, Below.refl _ _⟩
  | true =>
    cases bf with
    | false =>
      go_enter Tryz.func136, Tryz.ntmps136
      go_wp2_with fail
      refine HM.out.mono ?_
      rintro e w1 ⟨rfl, hw⟩
      obtain rfl := hw.symm
      go_wp2_with fail
      refine HF.out.mono ?_
      rintro e w2 ⟨rfl, hw⟩
      obtain rfl := hw.symm
      go_wp2_with fail
      go_ret
      exact ⟨by rw [HZ.out]; rfl, Below.refl _ _⟩
    | true =>
      by_cases h5 : s[m].toNat = 97
      · have HZ2 : Hid (rcount a b s.size 0 (numF s.toList s.size) = 0) := by show _ = _; rw [HZ.out, if_neg (fun h => h.2.2 h5)]
        have g1 : ((s[m].toNat : Int) != 97) = false := by rw [h5]; rfl
        have g2 : ((s[m].toNat : Int) == 97) = true := by rw [h5]; rfl
        clear h5 HZ
        go_enter Tryz.func136, Tryz.ntmps136
        go_wp2_with fail
        refine HM.out.mono ?_
        rintro e w1 ⟨rfl, hw⟩
        obtain rfl := hw.symm
        go_wp2_with fail
        refine HF.out.mono ?_
        rintro e w2 ⟨rfl, hw⟩
        obtain rfl := hw.symm
        go_wp2_with fail
        go_ret
        exact ⟨by rw [HZ2.out]; rfl, Below.refl _ _⟩
      · have HZ2 : Hid (rcount a b s.size 0 (numF s.toList s.size) = 1) := by show _ = _; rw [HZ.out, if_pos ⟨rfl, rfl, h5⟩]
        have g1 : ((s[m].toNat : Int) != 97) = true := by rw [bne_iff_ne]; omega
        have g2 : ((s[m].toNat : Int) == 97) = false := by rw [beq_eq_false_iff_ne]; omega
        clear h5 HZ
        go_enter Tryz.func136, Tryz.ntmps136
        go_wp2_with fail
        refine HM.out.mono ?_
        rintro e w1 ⟨rfl, hw⟩
        obtain rfl := hw.symm
        go_wp2_with fail
        refine HF.out.mono ?_
        rintro e w2 ⟨rfl, hw⟩
        obtain rfl := hw.symm
        go_wp2_with fail
        go_ret
        exact ⟨by rw [HZ2.out]; rfl, Below.refl _ _⟩
end Go.Proofs.YtngalkmmpjegkaaGreatDoor
/- leafref1.many, walked whole. Conditions: the texts are places, or empty. -/
namespace Go.Proofs.YtngalkmmpjegkaaGreatDoor
open Go.RowKit
set_option linter.unusedVariables false
theorem strOf_tl (l : List UInt8) : (strOf l).toList = l := by simp [strOf, ByteArray.toList_eq]
set_option maxRecDepth 100000 in
set_option maxHeartbeats 8000000 in
theorem rmany_more (w : World) (a b s : ByteArray) (la : Letters a) (lb : Letters b) (sa : a.size ≤ 12) (sb : b.size ≤ 12) (hs : LowL s.toList) (r n : Nat) (hn : s.size + (r + 1) = n) (h11 : n ≤ 11)
    (IH : ∀ (s' : ByteArray) (w' : World), LowL s'.toList → s'.size + r = n → Calls Tryz.prog 136 #[.string s', .int .i64 (n : Int), .string a, .string b] w' (CheckPost w' (.int .i64 (rcount a b n r (numF s'.toList s'.size) : Int)))) :
    Calls Tryz.prog 136 #[.string s, .int .i64 (n : Int), .string a, .string b] w (CheckPost w (.int .i64 (rcount a b n (r + 1) (numF s.toList s.size) : Int))) := by
  have LA := low_of la
  have LB := low_of lb
  have hl := toList_len s
  have HIH := Lib.hid IH
  have HM := Lib.hid (rmay_any' w s a b n (by omega) h11)
  have HB := Lib.hid (rbegins_any w s b (by omega) (by omega))
  have hnone := fun h => rcount_none (a := a) (b := b) (n := n) LA LB hs (r := r + 1) (by rw [hl]; exact hn) h
  have hall := fun h => rcount_all (a := a) (b := b) (n := n) LA LB hs (r := r) (by rw [hl]; exact hn) h
  have e3 : numF s.toList s.toList.length = numF s.toList s.size := by rw [hl]
  rw [e3] at hnone hall
  obtain ⟨v, hv⟩ : ∃ v, v = numF s.toList s.size := ⟨_, rfl⟩
  rw [← hv] at hnone hall ⊢
  have HV := Lib.hid hv
  have hvn : v < 26 ^ s.size := by
    have := numF_lt hs s.toList.length
    rw [e3, ← hv, hl] at this
    exact this
  have HNONE := Lib.hid hnone
  have HALL := Lib.hid hall
  have HLS := Lib.hid hs
  have HN := Lib.hid hn
  have hsn : s.size ≤ 10 := by omega
  have hr10 : r ≤ 10 := by omega
  have eln : ((s.size : Int) == (n : Int)) = false := by rw [beq_eq_false_iff_ne]; omega
  clear IH LA LB la lb hs hnone hall e3 hv hn hl
  obtain ⟨bm, hbm⟩ : ∃ x, mayB s.toList n a.toList b.toList = x := ⟨_, rfl⟩
  rw [hbm] at HM HNONE
  cases bm with
  | false =>
    have HZ := Lib.hid (HNONE.out rfl)
    clear hbm HNONE
    go_enter Tryz.func136, Tryz.ntmps136
    go_wp2_with fail
    refine HM.out.mono ?_
    rintro e w1 ⟨rfl, hw⟩
    obtain rfl := hw.symm
    go_wp2_with fail
    go_ret
    exact ⟨by rw [HZ.out]; rfl, Below.refl _ _⟩
  | true =>
    clear hbm HNONE
    go_enter Tryz.func136, Tryz.ntmps136
    go_wp2_with fail
    refine HM.out.mono ?_
    rintro e w1 ⟨rfl, hw⟩
    obtain rfl := hw.symm
    clear hw HM
    go_upto_block 0 with (fail)
    go_cut [10, 11] (fun v10 v11 wx => PadCut w s n v10 v11 wx)
    case first => as_aux_lemma =>
      go_wp2_with fail
      go_loopw [10, 11] (fun v9 v10 wr => PadLoop w s (r + 1) v9 v10 wr) (fun v9 _ _ => match v9 with | .string x => 11 - x.size | _ => 0)
      case atStart => exact ⟨0, s, s, by omega, rfl, rfl, by show _ = _; simp, by show _ = _; simp, rfl, rfl⟩
      case round =>
        obtain ⟨j, lo, hi, hj, rfl, rfl, HLO, HHI, hsz, HW⟩ := hrel
        have HSZ := Lib.hid hsz
        have h2 : hi.size = s.size + j := by rw [size_of HHI.out]; simp [toList_len]
        have HS2 := Lib.hid h2
        clear h2 hsz
        by_cases hjr : j < r + 1
        · have k1 : (lo.size : Int) < (n : Int) := by have := HSZ.out; have := HN.out; omega
          have hc1 : ∀ W, (Op.stringOp .add lo ⟨#[97]⟩).run Tryz.prog W = .ok (.string (lo ++ ⟨#[97]⟩)) W := fun W => run_string_add_sum _ _ _ (by have := HSZ.out; have := HN.out; show lo.size + 1 ≤ _; omega)
          have hc2 : ∀ W, (Op.stringOp .add hi ⟨#[122]⟩).run Tryz.prog W = .ok (.string (hi ++ ⟨#[122]⟩)) W := fun W => run_string_add_sum _ _ _ (by have := HS2.out; have := HN.out; show hi.size + 1 ≤ _; omega)
          go_wp2_with fail
          go_roundw
          case rel => exact ⟨j + 1, lo ++ (⟨#[97]⟩ : ByteArray), hi ++ (⟨#[122]⟩ : ByteArray), by omega, rfl, rfl, Lib.hid (pad_next HLO.out), Lib.hid (pad_next HHI.out), by rw [size_of (pad_next HLO.out)]; simp [toList_len], HW⟩
          case measure =>
            have h3 : (lo ++ ⟨#[97]⟩ : ByteArray).size = lo.size + 1 := by rw [size_of (pad_next HLO.out), HSZ.out]; simp [toList_len]; omega
            show 11 - (lo ++ ⟨#[97]⟩ : ByteArray).size < 11 - lo.size
            have := HSZ.out; have := HN.out; omega
        · have k1 : ¬ (lo.size : Int) < (n : Int) := by have := HSZ.out; have := HN.out; omega
          go_wp2_with fail
          go_meet
          case rel =>
            have hjr' : j = r + 1 := by omega
            have hpad : n - s.size = r + 1 := by have := HN.out; omega
            exact ⟨lo, hi, rfl, rfl, by show _ = _; unfold padL; rw [toList_len, hpad, HLO.out, hjr'], by show _ = _; unfold padL; rw [toList_len, hpad, HHI.out, hjr'], HW⟩
    case rest =>
      obtain ⟨lo, hi, rfl, rfl, HLO, HHI, HW⟩ := hcut
      have hw := HW.out
      subst hw
      clear HW
      go_wp2_with fail
      refine HB.out.mono ?_
      rintro e w2' ⟨rfl, hw⟩
      obtain rfl := hw
      clear HB
      go_upto_region 15 with (fail)
      go_cut [70] (fun v70 wx => v70 = .bool (allB s.toList n a.toList b.toList) ∧ Hid (wx = w2'))
      case first => as_aux_lemma =>
        have hF : allB s.toList n a.toList b.toList = (Op.bytesLess a.toList lo.toList && (b.toList.isEmpty || (Op.bytesLess hi.toList b.toList && !begB s.toList b.toList))) := by
          unfold allB
          rw [emp_iff, HLO.out, HHI.out]
        have HF := Lib.hid hF
        clear hF
        generalize begB s.toList b.toList = bb at *
        obtain ⟨x1, e1⟩ : ∃ x, Op.bytesLess a.toList lo.toList = x := ⟨_, rfl⟩
        obtain ⟨x2, e2⟩ : ∃ x, b.toList.isEmpty = x := ⟨_, rfl⟩
        obtain ⟨x3, e3⟩ : ∃ x, Op.bytesLess hi.toList b.toList = x := ⟨_, rfl⟩
        rw [e1, e2, e3] at HF
        rcases three a.toList lo.toList with ⟨f1, f2, f3⟩ | ⟨f1, f2, f3⟩ | ⟨f1, f2, f3⟩ <;> rw [e1] at f1 <;> subst f1 <;> cases x2 <;> cases x3 <;> cases bb
        all_goals
          go_wp2_with fail
          go_meet
          case rel => exact ⟨by rw [HF.out]; rfl, rfl⟩
      case rest =>
        obtain ⟨rfl, HW⟩ := hcut
        have hw := HW.out
        subst hw
        clear HW HLO HHI
        obtain ⟨al, hal⟩ : ∃ x, allB s.toList n a.toList b.toList = x := ⟨_, rfl⟩
        rw [hal] at HALL ⊢
        clear hal
        cases al with
        | true =>
          have HZ := Lib.hid (HALL.out rfl)
          clear HALL HIH
          go_wp2_with fail
          go_loopw [13, 14] (fun v13 v14 wr => MulLoop wc s.size r v13 v14 wr) (fun _ v14 _ => n - (intOf v14).toNat)
          case atStart => exact ⟨0, by omega, rfl, by congr 1, rfl⟩
          case round =>
            obtain ⟨j, hj, rfl, rfl, HW⟩ := hrel
            have hw := HW.out
            have hP := pow_le j (by omega)
            have hPb : 25 * 26 ^ j ≤ 91758612174694400 := by omega
            clear hP
            by_cases hjr : j < r
            · have k1 : ((s.size + 1 + j : Nat) : Int) < (n : Int) := by have := HN.out; omega
              have hP2 : (25 * 26 ^ (j + 1) : Nat) = 25 * 26 ^ j * 26 := by rw [Nat.pow_succ, Nat.mul_assoc]
              have HP2 := Lib.hid hP2
              clear hP2
              generalize 25 * 26 ^ j = P at *
              have q1 : IntKind.i64.wrap ((P : Int) * 26) = ((P * 26 : Nat) : Int) := by rw [IntWalk.i64_in _ (by omega)]; omega
              have q2 : IntKind.i64.wrap (((s.size + 1 + j : Nat) : Int) + 1) = ((s.size + 1 + (j + 1) : Nat) : Int) := by rw [IntWalk.i64_in _ (by omega)]; omega
              go_wp2_with fail
              go_roundw
              case rel => exact ⟨j + 1, by omega, by rw [HP2.out]; go_num, by go_num, rfl⟩
              case measure => simp [intOf]; omega
            · have k1 : ¬ ((s.size + 1 + j : Nat) : Int) < (n : Int) := by have := HN.out; omega
              have hjr' : j = r := by omega
              subst hjr'
              go_wp2_with fail
              go_ret
              exact ⟨by rw [HZ.out]; rfl, Below.refl _ _⟩
        | false =>
          clear HALL
          have hpw := pow_le (r + 1 + s.size) (by have := HN.out; omega)
          have hpow : 26 ^ (r + 1 + s.size) = 26 ^ s.size * 26 ^ (r + 1) := by rw [Nat.add_comm, Nat.pow_add]
          have hvb : (v + 1) * 26 ^ (r + 1) ≤ 3670344486987776 := by
            have := Nat.mul_le_mul_right (26 ^ (r + 1)) (show v + 1 ≤ 26 ^ s.size from hvn)
            rw [← hpow] at this
            omega
          have HVB : Hid (∀ j, j ≤ 26 → cntN (numb a n) (hiOf b.toList n) ((26 * v + j) * 26 ^ r) ≤ 3670344486987776) := fun j hj => by
            have h1 := cnt_mono (low := numb a n) (hi := hiOf b.toList n) (show (26 * v + j) * 26 ^ r ≤ (26 * v + 26) * 26 ^ r from Nat.mul_le_mul_right _ (by omega))
            have h2 := cnt_le (numb a n) (hiOf b.toList n) ((26 * v + 26) * 26 ^ r)
            have h3 := (span_eq r v).2
            omega
          have HEND : Hid (rcount a b n (r + 1) v = cntN (numb a n) (hiOf b.toList n) ((26 * v + 26) * 26 ^ r) - cntN (numb a n) (hiOf b.toList n) ((26 * v + 0) * 26 ^ r)) := by
            show _ = _
            unfold rcount
            rw [(span_eq r v).1, (span_eq r v).2]
          clear hpw hpow hvb hvn
          go_wp2_with fail
          go_loopw [15, 16] (fun v15 v16 wr => SumLoop wc (numb a n) (hiOf b.toList n) r v v15 v16 wr) (fun _ v16 _ => 123 - (intOf v16).toNat)
          case atStart => exact ⟨0, 0, by omega, rfl, rfl, by show _ = _; simp, Below.refl _ _⟩
          case round =>
            obtain ⟨j, q, hj, rfl, rfl, HQ, HBr⟩ := hrel
            have hq : q ≤ 3670344486987776 := by have := HQ.out; have := HVB.out j hj; omega
            by_cases hj26 : j < 26
            · have k1 : ((97 + j : Nat) : Int) ≤ 122 := by omega
              obtain ⟨C, w3, hcv, hR3, hB3⟩ := conv_row wr s (by omega)
              have HR3 := Lib.hid hR3
              have HB3 := Lib.hid hB3
              obtain ⟨V3, hV3⟩ : ∃ V : Option Addr, some ⟨wr.heap.size, 0, none⟩ = V := ⟨_, rfl⟩
              rw [hV3] at hcv
              have HV3 := Lib.hid hV3
              clear hV3
              have qu : IntKind.u8.wrap ((97 + j : Nat) : Int) = ((97 + j : Nat) : Int) := IntWalk.u8_in _ (by omega)
              have qu2 : IntKind.u8.wrap (97 + (j : Int)) = ((97 + j : Nat) : Int) := by rw [IntWalk.u8_in _ (by omega)]; omega
              have q2 : IntKind.i64.wrap (((97 + j : Nat) : Int) + 1) = ((97 + (j + 1) : Nat) : Int) := by rw [IntWalk.i64_in _ (by omega)]; omega
              clear hR3 hB3
              go_wp2_with (at_builtin; go_loud (refine wpList_bytes (.tmp 88) (.tmp 91) rfl rfl (show Value.slice V3 s.size C = Value.slice (some ⟨wr.heap.size, 0, none⟩) s.size C by rw [HV3.out]) rfl (HR3.out.below ((Below.refl _ _).alloc (Nat.le_refl _) _)) (by have := HB3.out.size; simp; omega) (reads_byte w3 ((97 + j : Nat) : Int) (by omega) (by omega) _ rfl) (by decide) (by omega) ?_; intro g' c' w4 HR4 HO4 HG4; have htx := HR4.text; have HR4' := Lib.hid HR4; have HO4' := Lib.hid HO4; clear HR4 HO4 HG4))
              have hlow : LowL (strOf (s.toList ++ [u8 ((97 + j : Nat) : Int)])).toList := by
                rw [strOf_tl]
                intro x hx
                rcases List.mem_append.1 hx with hx | hx
                · exact HLS.out x hx
                · rw [List.mem_singleton.1 hx]
                  have := u8_val (n := ((97 + j : Nat) : Int)) (by omega) (by omega)
                  omega
              have hsz : (strOf (s.toList ++ [u8 ((97 + j : Nat) : Int)])).size = s.size + 1 := by rw [strOf_size]; simp [toList_len]
              have hnum : numF (strOf (s.toList ++ [u8 ((97 + j : Nat) : Int)])).toList (strOf (s.toList ++ [u8 ((97 + j : Nat) : Int)])).size = 26 * v + j := by
                rw [strOf_tl, strOf_size, snoc_num, HV.out, toList_len]
                have := u8_val (n := ((97 + j : Nat) : Int)) (by omega) (by omega)
                omega
              have HCALL := HIH.out (strOf (s.toList ++ [u8 ((97 + j : Nat) : Int)])) w4 hlow (by rw [hsz]; have := HN.out; omega)
              rw [hnum] at HCALL
              clear hlow hsz hnum
              refine (show Calls Tryz.prog 136 _ w4 _ from HCALL).mono ?_
              rintro e w5 ⟨rfl, hb5⟩
              have hsum := rcount_sum (a := a) (b := b) (n := n) r v j
              have hnx := HVB.out (j + 1) (by omega)
              have hqq : q + rcount a b n r (26 * v + j) ≤ 3670344486987776 := by have := HQ.out; omega
              have HQN : Hid (cntN (numb a n) (hiOf b.toList n) ((26 * v + 0) * 26 ^ r) + (q + rcount a b n r (26 * v + j)) = cntN (numb a n) (hiOf b.toList n) ((26 * v + (j + 1)) * 26 ^ r)) := by show _ = _; have := HQ.out; omega
              clear hsum hnx HCALL
              generalize rcount a b n r (26 * v + j) = R at *
              have HBa := (HBr.out.trans (HB3.out.mono HBr.out.size)).alloc (Nat.le_trans HBr.out.size HB3.out.size) (.cells #[.int .u8 ((97 + j : Nat) : Int)] 5)
              have HB4 : Hid (Below wc.heap.size wc w5) := (HBa.trans (HO4'.out.below HBa.size (fun g hg => by rw [List.mem_singleton.1 hg]; exact HBr.out.size))).trans (hb5.mono (Nat.le_trans HBa.size HO4'.out.size))
              have q3 : IntKind.i64.wrap ((q : Int) + (R : Int)) = ((q + R : Nat) : Int) := by rw [IntWalk.i64_in _ (by omega)]; omega
              clear HBa hb5 HO4' HR4'
              go_wp2_with fail
              go_roundw
              case rel => exact ⟨j + 1, q + R, by omega, by go_num, by go_num, HQN, HB4⟩
              case measure => simp [intOf]; omega
            · have k1 : ¬ ((97 + j : Nat) : Int) ≤ 122 := by omega
              have hj' : j = 26 := by omega
              subst hj'
              go_wp2_with fail
              go_ret
              have hq2 : rcount a b n (r + 1) v = q := by rw [HEND.out]; have := HQ.out; omega
              exact ⟨by rw [hq2]; rfl, HBr.out⟩
end Go.Proofs.YtngalkmmpjegkaaGreatDoor
/- leafref1.many at any text, leafref1.nth, walked. Conditions: the texts are places, or empty. -/
namespace Go.Proofs.YtngalkmmpjegkaaGreatDoor
open Go.RowKit
set_option linter.unusedVariables false
theorem rmany_any (a b : ByteArray) (la : Letters a) (lb : Letters b) (sa : a.size ≤ 12) (sb : b.size ≤ 12) (n : Nat) (h1 : 1 ≤ n) (h11 : n ≤ 11) : ∀ (r : Nat) (s : ByteArray) (w : World), LowL s.toList → s.size + r = n →
    Calls Tryz.prog 136 #[.string s, .int .i64 (n : Int), .string a, .string b] w (CheckPost w (.int .i64 (rcount a b n r (numF s.toList s.size) : Int)))
  | 0, s, w, hs, hn => by
    have e : s.size = n := hn
    subst e
    exact rmany_last w a b s la lb sa sb hs h1 h11
  | r + 1, s, w, hs, hn => rmany_more w a b s la lb sa sb hs r n hn h11 (fun s' w' hs' hn' => rmany_any a b la lb sa sb n h1 h11 r s' w' hs' hn')
theorem empty_num : numF (⟨#[]⟩ : ByteArray).toList (⟨#[]⟩ : ByteArray).size = 0 := by
  show numF _ 0 = 0
  simp [numF]
/-- Where the text lies that is looked for. -/
structure NthAt (a b : ByteArray) (n X : Nat) (r v k : Nat) : Prop where
  lo : v * 26 ^ r ≤ X
  hi : X < (v + 1) * 26 ^ r
  cnt : cntN (numb a n) (hiOf b.toList n) (v * 26 ^ r) + k = cntN (numb a n) (hiOf b.toList n) X
def RSNthLoop (w : World) (a b : ByteArray) (n X : Nat) (v0 v4 : Value) (wr : World) : Prop :=
  ∃ (z : ByteArray) (r k : Nat), z.size + r = n ∧ v0 = .string z ∧ v4 = .int .i64 (k : Int) ∧ k ≤ 3670344486987776 ∧ Hid (LowL z.toList) ∧ Hid (NthAt a b n X r (numF z.toList z.size) k) ∧ Hid (Below w.heap.size w wr)
structure InAt (a b : ByteArray) (n X : Nat) (r v j k : Nat) : Prop where
  lo : (26 * v + j) * 26 ^ r ≤ X
  hi : X < (26 * v + 26) * 26 ^ r
  cnt : cntN (numb a n) (hiOf b.toList n) ((26 * v + j) * 26 ^ r) + k = cntN (numb a n) (hiOf b.toList n) X
def InLoop (w : World) (a b : ByteArray) (n X : Nat) (z : ByteArray) (r v : Nat) (v0 v4 v11 : Value) (wr : World) : Prop :=
  ∃ (j k : Nat), j ≤ 26 ∧ v0 = .string z ∧ v4 = .int .i64 (k : Int) ∧ v11 = .int .i64 ((97 + j : Nat) : Int) ∧ k ≤ 3670344486987776 ∧ Hid (InAt a b n X r v j k) ∧ Hid (Below w.heap.size w wr)
section
variable {a b : ByteArray} {n X r v j k : Nat}
theorem NthAt.into (h : NthAt a b n X (r + 1) v k) : InAt a b n X r v 0 k := by
  obtain ⟨h1, h2, h3⟩ := h
  rw [(span_eq r v).1] at h1 h3
  rw [(span_eq r v).2] at h2
  exact ⟨h1, h2, h3⟩
theorem InAt.less (h : InAt a b n X r v j k) (hj : j ≤ 26) : j < 26 := by
  rcases Nat.lt_or_eq_of_le hj with h1 | h1
  · exact h1
  · subst h1; have := h.lo; have := h.hi; omega
theorem InAt.take (h : InAt a b n X r v j k) (hk : k < rcount a b n r (26 * v + j)) : NthAt a b n X r (26 * v + j) k := by
  refine ⟨h.lo, ?_, h.cnt⟩
  have h1 := rcount_le (a := a) (b := b) (n := n) r (26 * v + j)
  rcases Nat.lt_or_ge X ((26 * v + j + 1) * 26 ^ r) with h2 | h2
  · exact h2
  · have := cnt_mono (low := numb a n) (hi := hiOf b.toList n) h2
    have := h.cnt
    omega
theorem InAt.next (h : InAt a b n X r v j k) (hX : okN (numb a n) (hiOf b.toList n) X = true) (hk : ¬ k < rcount a b n r (26 * v + j)) : InAt a b n X r v (j + 1) (k - rcount a b n r (26 * v + j)) := by
  have h1 := rcount_le (a := a) (b := b) (n := n) r (26 * v + j)
  have h3 := h.cnt
  refine ⟨?_, h.hi, ?_⟩
  · rcases Nat.lt_or_ge X ((26 * v + (j + 1)) * 26 ^ r) with h2 | h2
    · exfalso
      have h4 := cnt_mono (low := numb a n) (hi := hiOf b.toList n) (show X + 1 ≤ (26 * v + j + 1) * 26 ^ r from h2)
      rw [cntN, hX] at h4
      simp at h4
      omega
    · exact h2
  · rw [show 26 * v + (j + 1) = 26 * v + j + 1 from rfl]; omega
theorem NthAt.done {z : ByteArray} (h : NthAt a b n X 0 (numF z.toList z.size) k) (hz : z.size = n) (hl : LowL z.toList) (hX : X < 26 ^ n) : z.toList = lets X n := by
  have h1 := h.lo
  have h2 := h.hi
  simp only [Nat.pow_zero, Nat.mul_one] at h1 h2
  have e : numF z.toList n = X := by rw [← hz]; omega
  have e2 := lets_num hX
  have hz2 : z.toList.length = n := by rw [toList_len]; exact hz
  have h3 := numF_begins hl (lets_low X n) (by rw [lets_len]; omega) (by rw [lets_len]; omega)
  rw [lets_len, List.take_of_length_le (by omega)] at h3
  exact h3
end
set_option maxRecDepth 100000 in
set_option maxHeartbeats 4000000 in
theorem rnthS_any (w : World) (a b : ByteArray) (la : Letters a) (lb : Letters b) (sa : a.size ≤ 12) (sb : b.size ≤ 12) (n : Nat) (h1 : 1 ≤ n) (h11 : n ≤ 11) (X k0 : Nat) (hX : okN (numb a n) (hiOf b.toList n) X = true) (hXn : X < 26 ^ n) (hk : cntN (numb a n) (hiOf b.toList n) X = k0) :
    Calls Tryz.prog 137 #[.string ⟨#[]⟩, .int .i64 (n : Int), .string a, .string b, .int .i64 (k0 : Int)] w (CheckPost w (.string (strOf (lets X n)))) := by
  have HM := Lib.hid (fun r s W hs hn => rmany_any a b la lb sa sb n h1 h11 r s W hs hn)
  have hk0 : k0 ≤ 3670344486987776 := by
    have := cnt_le (numb a n) (hiOf b.toList n) X
    have := pow_le n h11
    omega
  have HXO := Lib.hid hX
  have HXN := Lib.hid hXn
  have A0 : Hid (NthAt a b n X n 0 k0) := by
    refine ⟨by omega, by omega, ?_⟩
    rw [Nat.zero_mul, hk]; simp [cntN]
  clear hX hXn hk la lb sa sb
  go_enter Tryz.func137, Tryz.ntmps137
  go_wp2_with fail
  go_loopw [0, 4] (fun v0 v4 wr => RSNthLoop w a b n X v0 v4 wr) (fun v0 _ _ => match v0 with | .string x => 11 - x.size | _ => 0)
  case atStart => exact ⟨⟨#[]⟩, n, k0, (by show 0 + n = n; omega), rfl, rfl, hk0, (by intro c hc; simp [ByteArray.toList_eq] at hc), (by rw [empty_num]; exact A0), Below.refl _ _⟩
  case round =>
    obtain ⟨z, r, k, hz, rfl, rfl, hkk, HLZ, HAT, HBr⟩ := hrel
    by_cases hzn : z.size < n
    · obtain ⟨r, rfl⟩ : ∃ q, r = q + 1 := ⟨r - 1, by omega⟩
      have k1 : (z.size : Int) < (n : Int) := by omega
      have HZ := Lib.hid hz
      obtain ⟨v, hv⟩ : ∃ v, numF z.toList z.size = v := ⟨_, rfl⟩
      rw [hv] at HAT
      have HV := Lib.hid hv
      have HI := Lib.hid HAT.out.into
      have HVB : Hid ((26 * v + 26) * 26 ^ r ≤ 3670344486987776) := by
        have e1 := (span_eq r v).2
        have e2 : v < 26 ^ z.size := by
          have := numF_lt HLZ.out z.toList.length
          rw [toList_len, hv] at this
          exact this
        have e3 := Nat.mul_le_mul_right (26 ^ (r + 1)) (show v + 1 ≤ 26 ^ z.size from e2)
        rw [← Nat.pow_add, hz] at e3
        have := pow_le n h11
        show _ ≤ _
        omega
      clear hz hv HAT
      go_wp2_with fail
      go_loopw [0, 4, 11] (fun v0 v4 v11 wr => InLoop w a b n X z r v v0 v4 v11 wr) (fun _ _ v11 _ => 123 - (intOf v11).toNat)
      case atStart => exact ⟨0, k, by omega, rfl, rfl, rfl, hkk, HI, HBr⟩
      case round =>
        clear HI HBr hkk
        obtain ⟨j, k, hj, rfl, rfl, rfl, hkk, HI, HBr⟩ := hrel
        have hj26 := HI.out.less hj
        have k2 : ((97 + j : Nat) : Int) ≤ 122 := by omega
        obtain ⟨C, w3, hcv, hR3, hB3⟩ := conv_row wr z (by omega)
        have HR3 := Lib.hid hR3
        have HB3 := Lib.hid hB3
        have qu : IntKind.u8.wrap ((97 + j : Nat) : Int) = ((97 + j : Nat) : Int) := IntWalk.u8_in _ (by omega)
        have qu2 : IntKind.u8.wrap (97 + (j : Int)) = ((97 + j : Nat) : Int) := by rw [IntWalk.u8_in _ (by omega)]; omega
        have q2 : IntKind.i64.wrap (((97 + j : Nat) : Int) + 1) = ((97 + (j + 1) : Nat) : Int) := by rw [IntWalk.i64_in _ (by omega)]; omega
        clear hR3 hB3
        go_wp2_with (at_builtin; go_loud (refine wpList_bytes (.tmp 24) (.tmp 27) rfl rfl rfl rfl (HR3.out.below ((Below.refl _ _).alloc (Nat.le_refl _) _)) (by have := HB3.out.size; simp; omega) (reads_byte w3 ((97 + j : Nat) : Int) (by omega) (by omega) _ rfl) (by decide) (by omega) ?_; intro g' c' w4 HR4 HO4 HG4; have htx := HR4.text; have HR4' := Lib.hid HR4; have HO4' := Lib.hid HO4; clear HR4 HO4 HG4))
        have hlow : LowL (strOf (z.toList ++ [u8 ((97 + j : Nat) : Int)])).toList := by
          rw [strOf_tl]
          intro x hx
          rcases List.mem_append.1 hx with hx | hx
          · exact HLZ.out x hx
          · rw [List.mem_singleton.1 hx]
            have := u8_val (n := ((97 + j : Nat) : Int)) (by omega) (by omega)
            omega
        have hsz : (strOf (z.toList ++ [u8 ((97 + j : Nat) : Int)])).size = z.size + 1 := by rw [strOf_size]; simp [toList_len]
        have hnum : numF (strOf (z.toList ++ [u8 ((97 + j : Nat) : Int)])).toList (strOf (z.toList ++ [u8 ((97 + j : Nat) : Int)])).size = 26 * v + j := by
          rw [strOf_tl, strOf_size, snoc_num, ← HV.out, toList_len]
          have := u8_val (n := ((97 + j : Nat) : Int)) (by omega) (by omega)
          omega
        have HNUM := Lib.hid hnum
        have HLOW := Lib.hid hlow
        have HSZ := Lib.hid hsz
        have HCALL := HM.out r (strOf (z.toList ++ [u8 ((97 + j : Nat) : Int)])) w4 hlow (by rw [hsz]; have := HZ.out; omega)
        rw [hnum] at HCALL
        clear hlow hsz hnum
        refine (show Calls Tryz.prog 136 _ w4 _ from HCALL).mono ?_
        rintro e w5 ⟨rfl, hb5⟩
        clear HCALL htx
        have hR : rcount a b n r (26 * v + j) ≤ 3670344486987776 := by
          have hx1 := cnt_le (numb a n) (hiOf b.toList n) ((26 * v + 26) * 26 ^ r)
          have hx2 := cnt_mono (low := numb a n) (hi := hiOf b.toList n) (show (26 * v + j + 1) * 26 ^ r ≤ (26 * v + 26) * 26 ^ r from Nat.mul_le_mul_right _ (by omega))
          have hx3 := rcount_le (a := a) (b := b) (n := n) r (26 * v + j)
          have hx4 := HVB.out
          omega
        have HTK := Lib.hid (fun hk => HI.out.take (j := j) (k := k) hk)
        have HNX := Lib.hid (fun hk => HI.out.next (j := j) (k := k) HXO.out hk)
        have htx := (HR4'.out.below hb5).text
        generalize strOf (z.toList ++ [u8 ((97 + j : Nat) : Int)]) = z2 at *
        have HBa := (HBr.out.trans (HB3.out.mono HBr.out.size)).alloc (Nat.le_trans HBr.out.size HB3.out.size) (.cells #[.int .u8 ((97 + j : Nat) : Int)] 5)
        have HB4 : Hid (Below w.heap.size w w5) := (HBa.trans (HO4'.out.below HBa.size (fun g hg => by rw [List.mem_singleton.1 hg]; exact HBr.out.size))).trans (hb5.mono (Nat.le_trans HBa.size HO4'.out.size))
        clear HBa hb5 HO4' HR4' hcv HR3 HB3
        generalize rcount a b n r (26 * v + j) = R at *
        by_cases hkr : k < R
        · have k3 : (k : Int) < (R : Int) := by omega
          have HN2 := Lib.hid (HTK.out hkr)
          clear HTK HNX
          go_wp2_with fail
          go_roundw
          case rel => exact ⟨z2, r, k, (by have := HSZ.out; have := HZ.out; omega), rfl, rfl, hkk, HLOW, (by rw [HNUM.out]; exact HN2), HB4⟩
          case measure =>
            show 11 - z2.size < 11 - z.size
            have := HSZ.out; omega
        · have k3 : ¬ (k : Int) < (R : Int) := by omega
          have q3 : IntKind.i64.wrap ((k : Int) - (R : Int)) = ((k - R : Nat) : Int) := by rw [IntWalk.i64_in _ (by omega)]; omega
          have HN2 := Lib.hid (HNX.out hkr)
          clear HTK HNX
          go_wp2_with fail
          go_roundw
          case rel => exact ⟨j + 1, k - R, by omega, rfl, by go_num, by go_num, by omega, HN2, HB4⟩
          case measure => simp [intOf]; omega
    · have k1 : ¬ (z.size : Int) < (n : Int) := by omega
      have hr : r = 0 := by omega
      subst hr
      have HE := Lib.hid (HAT.out.done (by omega) HLZ.out HXN.out)
      go_wp2_with fail
      go_ret
      have : z = strOf (lets X n) := by rw [← HE.out]; simp [strOf, ByteArray.toList_eq]
      exact ⟨by rw [this]; rfl, HBr.out⟩
end Go.Proofs.YtngalkmmpjegkaaGreatDoor

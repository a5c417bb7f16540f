/- Texts between two: to count them letter by letter is to reckon with their numbers. Plain. Conditions: none. -/
import Derived.Test.YtgmdnmdniidngaaDoorPlaceLaw
namespace Go.Proofs.YtgmdnmdniidngaaDoor
open Go.RowKit
set_option linter.unusedVariables false
/-! Counting -/
/-- Is x the number of a text that fits? -/
def okN (low : Nat) (hi : Option Nat) (x : Nat) : Bool := decide (low < x) && (match hi with | none => true | some h => decide (x < h)) && decide (x % 26 ≠ 0)
/-- How many numbers below x fit. -/
def cntN (low : Nat) (hi : Option Nat) : Nat → Nat
  | 0 => 0
  | x + 1 => cntN low hi x + if okN low hi x = true then 1 else 0
section
variable {low : Nat} {hi : Option Nat}
theorem cnt_mono {p q : Nat} (h : p ≤ q) : cntN low hi p ≤ cntN low hi q := by
  induction q with
  | zero =>
    have : p = 0 := by omega
    rw [this]
    exact Nat.le_refl _
  | succ q ih =>
    rcases Nat.lt_or_eq_of_le h with h1 | h1
    · have := ih (by omega); rw [cntN]; omega
    · subst h1; exact Nat.le_refl _
theorem cnt_none {p : Nat} : ∀ (m : Nat), (∀ x, p ≤ x → x < p + m → okN low hi x = false) → cntN low hi (p + m) = cntN low hi p
  | 0, _ => rfl
  | m + 1, h => by
    rw [show p + (m + 1) = (p + m) + 1 from rfl, cntN, h (p + m) (by omega) (by omega), cnt_none m (fun x h1 h2 => h x h1 (by omega))]
    simp
theorem cnt_run {p : Nat} (hp : p % 26 = 0) : ∀ (m : Nat), m ≤ 26 → (∀ x, p ≤ x → x < p + m → x % 26 ≠ 0 → okN low hi x = true) → cntN low hi (p + m) = cntN low hi p + (m - 1)
  | 0, _, _ => rfl
  | m + 1, hm, h => by
    rw [show p + (m + 1) = (p + m) + 1 from rfl, cntN, cnt_run hp m (by omega) (fun x h1 h2 => h x h1 (by omega))]
    rcases Nat.eq_zero_or_pos m with h0 | h0
    · subst h0
      have : okN low hi (p + 0) = false := by unfold okN; simp [hp]
      rw [this]; simp
    · rw [h (p + m) (by omega) (by omega) (by omega)]
      simp; omega
theorem cnt_all {p : Nat} (hp : p % 26 = 0) : ∀ (m : Nat), (∀ x, p ≤ x → x < p + 26 * m → x % 26 ≠ 0 → okN low hi x = true) → cntN low hi (p + 26 * m) = cntN low hi p + 25 * m
  | 0, _ => rfl
  | m + 1, h => by
    have h1 := cnt_all hp m (fun x h1 h2 => h x h1 (by omega))
    have h2 := cnt_run (low := low) (hi := hi) (p := p + 26 * m) (by omega) 26 (Nat.le_refl _) (fun x h3 h4 => h x (by omega) (by omega))
    rw [show p + 26 * (m + 1) = p + 26 * m + 26 by omega, h2, h1]
    omega
theorem okN_iff {x : Nat} : okN low hi x = true ↔ low < x ∧ (∀ h, hi = some h → x < h) ∧ x % 26 ≠ 0 := by
  unfold okN
  cases hi with
  | none => simp
  | some h => simp [and_assoc]
/-- How many, in one sum. -/
theorem cnt_eq : ∀ (x : Nat), (∀ h, hi = some h → x ≤ h) → cntN low hi x = upTo (x - 1) - upTo low
  | 0, _ => by simp [cntN, upTo]
  | x + 1, hh => by
    have ih := cnt_eq x (fun h e => by have := hh h e; omega)
    rw [cntN, ih]
    by_cases h1 : okN low hi x = true
    · rw [if_pos h1]
      obtain ⟨a, b, c⟩ := okN_iff.1 h1
      unfold upTo
      simp only [Nat.add_sub_cancel]
      omega
    · rw [if_neg h1]
      have h2 : ¬ (low < x ∧ x % 26 ≠ 0) := fun ⟨a, c⟩ => h1 (okN_iff.2 ⟨a, fun h e => by have := hh h e; omega, c⟩)
      unfold upTo
      simp only [Nat.add_sub_cancel, Nat.add_zero]
      by_cases h3 : low < x
      · have : x % 26 = 0 := by
          rcases Nat.eq_zero_or_pos (x % 26) with h | h
          · exact h
          · exact absurd ⟨h3, by omega⟩ h2
        omega
      · omega
theorem cnt_at {x y : Nat} (hx : okN low hi x = true) (hy : okN low hi y = true) (h : cntN low hi x = cntN low hi y) : x = y := by
  rcases Nat.lt_trichotomy x y with h1 | h1 | h1
  · have h2 := cnt_mono (low := low) (hi := hi) (show x + 1 ≤ y by omega)
    rw [cntN, hx] at h2
    simp at h2; omega
  · exact h1
  · have h2 := cnt_mono (low := low) (hi := hi) (show y + 1 ≤ x by omega)
    rw [cntN, hy] at h2
    simp at h2; omega
end
/-! Texts and numbers -/
theorem numF_app : ∀ (n : Nat) (l m : List UInt8), n ≤ l.length → numF (l ++ m) n = numF l n
  | 0, _, _, _ => by simp [numF]
  | n + 1, [], m, h => by simp at h
  | n + 1, a :: l, m, h => by simp only [List.cons_append, numF]; rw [numF_app n l m (by simpa using h)]
theorem numF_long : ∀ (n : Nat) (l : List UInt8) (c : UInt8), c.toNat = 97 → l.length ≤ n → numF (l ++ [c]) n = numF l n
  | 0, _, _, _, _ => by simp [numF]
  | n + 1, [], c, hc, _ => by
    simp only [List.nil_append, numF, hc]
    cases n <;> simp [numF]
  | n + 1, a :: l, c, hc, h => by simp only [List.cons_append, numF]; rw [numF_long n l c hc (by simpa using h)]
theorem digL_lt {l : List UInt8} (h : LowL l) (i : Nat) : digL l i < 26 := by
  unfold digL
  split
  · rename_i c hc; have := h c (List.mem_of_getElem? hc); omega
  · omega
/-- Like numbers have like digits. -/
theorem numF_dig {l m : List UInt8} (hl : LowL l) (hm : LowL m) : ∀ (n : Nat), numF l n = numF m n → ∀ i, i < n → digL l i = digL m i
  | 0, _, i, hi => by omega
  | n + 1, h, i, hi => by
    rw [numF_succ, numF_succ] at h
    have h1 := digL_lt hl n
    have h2 := digL_lt hm n
    rcases Nat.lt_or_eq_of_le (Nat.le_of_lt_succ hi) with h3 | h3
    · exact numF_dig hl hm n (by omega) i h3
    · subst h3; omega
/-- Like numbers, and long enough: the one begins the other. -/
theorem numF_begins {l t : List UInt8} (hl : LowL l) (ht : LowL t) (hlen : t.length ≤ l.length) (h : numF l t.length = numF t t.length) : l.take t.length = t := by
  apply List.ext_getElem (by simp; omega)
  intro i h1 h2
  have hd := numF_dig hl ht _ h i h2
  unfold digL at hd
  rw [List.getElem?_eq_getElem (by omega), List.getElem?_eq_getElem h2] at hd
  simp only at hd
  have a1 := hl l[i] (List.getElem_mem _)
  have a2 := ht t[i] (List.getElem_mem _)
  rw [List.getElem_take]
  apply UInt8.toNat_inj.1
  omega
theorem numF_short {l t : List UInt8} (hl : LowL l) (ht : LowL t) (hlen : l.length < t.length) (h : numF l t.length = numF t t.length) : numF t t.length % 26 = 0 := by
  obtain ⟨n, hn⟩ : ∃ n, t.length = n + 1 := ⟨t.length - 1, by omega⟩
  have hd := numF_dig hl ht _ h n (by omega)
  have h0 : digL l n = 0 := by unfold digL; rw [List.getElem?_eq_none (by omega)]
  rw [hn, numF_succ, ← hd, h0]
  omega
theorem less_app : ∀ (t r : List UInt8), Op.bytesLess (t ++ r) t = false
  | [], r => by cases r <;> rfl
  | c :: t, r => by
    have := less_app t r
    simp only [List.cons_append, Op.bytesLess]
    simp [this]
def hiOf (b : List UInt8) (n : Nat) : Option Nat := if b = [] then none else some (numF b n)
def begB (s t : List UInt8) : Bool := decide (s.length ≤ t.length) && decide (t.take s.length = s)
def fitB (s a b : List UInt8) : Bool := Op.bytesLess a s && (decide (b = []) || (Op.bytesLess s b && !begB s b))
/-- A text of n letters that does not end in a: it fits as its number does. -/
theorem fit_num {s a b : List UInt8} (hs : LowL s) (ha : LowL a) (hb : LowL b) (he : numF s s.length % 26 ≠ 0) : fitB s a b = okN (numF a s.length) (hiOf b s.length) (numF s s.length) := by
  have h1 : Op.bytesLess a s = decide (numF a s.length < numF s s.length) := by
    rcases Nat.lt_trichotomy (numF a s.length) (numF s s.length) with h | h | h
    · rw [decide_eq_true h]
      have := less_num [] hs ha h
      simpa using this
    · rw [decide_eq_false (by omega)]
      rcases Nat.lt_or_ge a.length s.length with h2 | h2
      · exact absurd (numF_short ha hs h2 h) he
      · have h3 := numF_begins ha hs h2 h
        have h4 := less_app s (a.drop s.length)
        rw [← h3, List.length_take, Nat.min_eq_left h2] at h4
        have h5 : a.take s.length ++ a.drop s.length = a := List.take_append_drop _ _
        rw [h5, h3] at h4
        exact h4
    · rw [decide_eq_false (by omega)]
      have := num_less [] hs ha h
      rw [List.append_nil] at this
      exact less_asymm _ _ this
  have h2 : (decide (b = []) || (Op.bytesLess s b && !begB s b)) = (match hiOf b s.length with | none => true | some h => decide (numF s s.length < h)) := by
    unfold hiOf
    by_cases hbe : b = []
    · subst hbe; simp
    · rw [if_neg hbe, decide_eq_false hbe, Bool.false_or]
      simp only
      rcases Nat.lt_trichotomy (numF s s.length) (numF b s.length) with h | h | h
      · rw [decide_eq_true h]
        have h3 := num_less [] hs hb h
        rw [List.append_nil] at h3
        have h4 : begB s b = false := by
          unfold begB
          rw [Bool.and_eq_false_iff]
          rcases Nat.lt_or_ge b.length s.length with h5 | h5
          · exact .inl (decide_eq_false (by omega))
          · refine .inr (decide_eq_false fun h6 => ?_)
            have h7 := numF_app s.length (b.take s.length) (b.drop s.length) (by simp; omega)
            rw [List.take_append_drop, h6] at h7
            omega
        rw [h3, h4]; rfl
      · rw [decide_eq_false (by omega)]
        rcases Nat.lt_or_ge b.length s.length with h2 | h2
        · exact absurd (numF_short hb hs h2 h.symm) he
        · have h3 := numF_begins hb hs h2 h.symm
          have : begB s b = true := by unfold begB; simp [h2, h3]
          rw [this]; simp
      · rw [decide_eq_false (by omega)]
        have := less_num [] hs hb h
        rw [List.append_nil] at this
        rw [less_asymm _ _ this]; rfl
  unfold fitB okN
  rw [h1, h2, decide_eq_true he]
  simp
/-- A text made n letters long. -/
def padL (c : UInt8) (s : List UInt8) (n : Nat) : List UInt8 := s ++ List.replicate (n - s.length) c
theorem padL_len {c : UInt8} {s : List UInt8} {n : Nat} (h : s.length ≤ n) : (padL c s n).length = n := by simp [padL]; omega
theorem padL_low {c : UInt8} {s : List UInt8} {n : Nat} (hs : LowL s) (hc : 97 ≤ c.toNat ∧ c.toNat ≤ 122) : LowL (padL c s n) := by
  intro x hx
  unfold padL at hx
  rcases List.mem_append.1 hx with h | h
  · exact hs x h
  · obtain ⟨_, rfl⟩ := List.mem_replicate.1 h; exact hc
theorem pad_num (c : UInt8) (s : List UInt8) : ∀ (r : Nat), numF (s ++ List.replicate r c) (s.length + r) = numF s s.length * 26 ^ r + numF (List.replicate r c) r
  | 0 => by simp [numF]
  | r + 1 => by
    have h1 := numF_succ (s ++ List.replicate (r + 1) c) (s.length + r)
    have h2 := numF_succ (List.replicate (r + 1) c) r
    have e1 : s ++ List.replicate (r + 1) c = (s ++ List.replicate r c) ++ [c] := by rw [List.replicate_succ', List.append_assoc]
    have e2 : numF (s ++ List.replicate (r + 1) c) (s.length + r) = numF (s ++ List.replicate r c) (s.length + r) := by
      rw [e1, numF_app _ _ _ (by simp)]
    have e3 : numF (List.replicate (r + 1) c) r = numF (List.replicate r c) r := by rw [List.replicate_succ', numF_app _ _ _ (by simp)]
    have e4 : digL (s ++ List.replicate (r + 1) c) (s.length + r) = digL (List.replicate (r + 1) c) r := by
      unfold digL
      rw [List.getElem?_append_right (by omega)]
      congr 2
      omega
    rw [show s.length + (r + 1) = s.length + r + 1 from rfl, h1, h2, e2, e3, e4, pad_num c s r, Nat.pow_succ, Nat.add_mul, Nat.mul_assoc]
    omega
theorem rep_a : ∀ (r : Nat), numF (List.replicate r (97 : UInt8)) r = 0
  | 0 => rfl
  | r + 1 => by
    rw [List.replicate_succ, numF, rep_a r]
    simp
theorem rep_z : ∀ (r : Nat), numF (List.replicate r (122 : UInt8)) r + 1 = 26 ^ r
  | 0 => rfl
  | r + 1 => by
    have h1 := rep_z r
    have h2 : (122 : UInt8).toNat - 97 = 25 := by decide
    rw [List.replicate_succ, numF, Nat.pow_succ, h2]
    omega
def mayB (s : List UInt8) (n : Nat) (a b : List UInt8) : Bool := Op.bytesLess a (padL 122 s n) && (decide (b = []) || Op.bytesLess (padL 97 s n) b)
def allB (s : List UInt8) (n : Nat) (a b : List UInt8) : Bool := Op.bytesLess a (padL 97 s n) && (decide (b = []) || (Op.bytesLess (padL 122 s n) b && !begB s b))
theorem pad_nums {s : List UInt8} {n r : Nat} (hn : s.length + r = n) : numF (padL 97 s n) n = numF s s.length * 26 ^ r ∧ numF (padL 122 s n) n + 1 = (numF s s.length + 1) * 26 ^ r := by
  subst hn
  unfold padL
  rw [show s.length + r - s.length = r by omega]
  have h1 := pad_num 97 s r
  have h2 := pad_num 122 s r
  have h3 := rep_a r
  have h4 := rep_z r
  rw [h1, h2, h3, Nat.add_mul, Nat.one_mul]
  omega
section
variable {s a b : List UInt8} {n r : Nat} (hs : LowL s) (ha : LowL a) (hb : LowL b) (hn : s.length + r = n)
include hs ha hb hn
theorem may_not (h : mayB s n a b = false) : ∀ x, numF s s.length * 26 ^ r ≤ x → x < (numF s s.length + 1) * 26 ^ r → okN (numF a n) (hiOf b n) x = false := by
  obtain ⟨p1, p2⟩ := pad_nums hn
  have l1 : (padL 97 s n).length = n := padL_len (by omega)
  have l2 : (padL 122 s n).length = n := padL_len (by omega)
  have w1 : LowL (padL 97 s n) := padL_low hs (by decide)
  have w2 : LowL (padL 122 s n) := padL_low hs (by decide)
  intro x x1 x2
  rw [← Bool.not_eq_true, okN_iff]
  rintro ⟨c1, c2, c3⟩
  unfold mayB at h
  rw [Bool.and_eq_false_iff] at h
  rcases h with h | h
  · have : ¬ numF a n < numF (padL 122 s n) n := fun hh => by
      have := less_num [] w2 ha (by rw [l2]; exact hh)
      rw [List.append_nil, h] at this; cases this
    omega
  · rw [Bool.or_eq_false_iff] at h
    have hbe : b ≠ [] := of_decide_eq_false h.1
    have : ¬ numF (padL 97 s n) n < numF b n := fun hh => by
      have := num_less [] w1 hb (by rw [l1]; exact hh)
      rw [List.append_nil, h.2] at this; cases this
    have := c2 (numF b n) (by unfold hiOf; rw [if_neg hbe])
    omega
theorem all_fit (h : allB s n a b = true) (h0 : 0 < r) : ∀ x, numF s s.length * 26 ^ r ≤ x → x < (numF s s.length + 1) * 26 ^ r → x % 26 ≠ 0 → okN (numF a n) (hiOf b n) x = true := by
  obtain ⟨p1, p2⟩ := pad_nums hn
  have l1 : (padL 97 s n).length = n := padL_len (by omega)
  have l2 : (padL 122 s n).length = n := padL_len (by omega)
  have w1 : LowL (padL 97 s n) := padL_low hs (by decide)
  have w2 : LowL (padL 122 s n) := padL_low hs (by decide)
  intro x x1 x2 x3
  unfold allB at h
  rw [Bool.and_eq_true] at h
  obtain ⟨h1, h2⟩ := h
  obtain ⟨q, rfl⟩ : ∃ q, r = q + 1 := ⟨r - 1, by omega⟩
  have hm : numF s s.length * 26 ^ (q + 1) % 26 = 0 := by rw [Nat.pow_succ, ← Nat.mul_assoc]; exact Nat.mul_mod_left _ _
  have hm2 : (numF s s.length + 1) * 26 ^ (q + 1) % 26 = 0 := by rw [Nat.pow_succ, ← Nat.mul_assoc]; exact Nat.mul_mod_left _ _
  rw [okN_iff]
  refine ⟨?_, fun hh e => ?_, x3⟩
  · have : ¬ numF (padL 97 s n) n < numF a n := fun hh => by
      have h3 := num_less [] w1 ha (by rw [l1]; exact hh)
      rw [List.append_nil] at h3
      rw [less_asymm _ _ h3] at h1; cases h1
    rcases Nat.lt_or_eq_of_le x1 with h4 | h4
    · omega
    · rw [← h4] at x3; exact absurd hm x3
  · unfold hiOf at e
    split at e
    · cases e
    rename_i hbe
    injection e with e
    subst e
    rw [decide_eq_false hbe, Bool.false_or, Bool.and_eq_true] at h2
    have : ¬ numF b n < numF (padL 122 s n) n := fun hh => by
      have h3 := less_num [] w2 hb (by rw [l2]; exact hh)
      rw [List.append_nil] at h3
      rw [less_asymm _ _ h3] at h2; cases h2.1
    rcases Nat.lt_or_ge x (numF b n) with h4 | h4
    · exact h4
    · exfalso
      have h5 : numF b n = numF (padL 122 s n) n := by omega
      have h6 : numF (padL 122 s n) (padL 122 s n).length % 26 ≠ 0 := by rw [l2]; omega
      rcases Nat.lt_or_ge b.length n with h7 | h7
      · exact h6 (numF_short hb w2 (by rw [l2]; exact h7) (by rw [l2]; exact h5))
      · have h8 := numF_begins hb w2 (by rw [l2]; exact h7) (by rw [l2]; exact h5)
        rw [l2] at h8
        have h9 : begB s b = true := by
          unfold begB
          rw [Bool.and_eq_true, decide_eq_true_iff, decide_eq_true_iff]
          refine ⟨by omega, ?_⟩
          have := congrArg (List.take s.length) h8
          rw [List.take_take, Nat.min_eq_left (by omega)] at this
          rw [this]
          unfold padL
          rw [List.take_append_of_le_length (Nat.le_refl _), List.take_length]
        rw [h9] at h2
        exact absurd h2.2 (by decide)
end
theorem hiOf_high {b : ByteArray} {n : Nat} : (∀ h, hiOf b.toList n = some h → high b n = (h : Int) - 1) ∧ (hiOf b.toList n = none → high b n = ((26 ^ n : Nat) : Int) - 1) := by
  have hl := toList_len b
  unfold hiOf high
  by_cases hb : b.toList = []
  · rw [if_pos hb]
    have : b.size = 0 := by rw [hb] at hl; simpa using hl.symm
    rw [if_pos this]
    exact ⟨fun h e => (by cases e), fun _ => rfl⟩
  · rw [if_neg hb]
    have : b.size ≠ 0 := fun h0 => hb (List.eq_nil_of_length_eq_zero (by omega))
    rw [if_neg this, numb_eq]
    exact ⟨fun h e => (by injection e with e; rw [e]), fun e => (by cases e)⟩
/-- The program's count is this one. -/
theorem many_cnt {a b : ByteArray} {n : Nat} (hb : LowL b.toList) : many a b n = (cntN (numb a n) (hiOf b.toList n) (26 ^ n) : Int) := by
  obtain ⟨h1, h2⟩ := hiOf_high (b := b) (n := n)
  cases hh : hiOf b.toList n with
  | none =>
    have e := h2 hh
    rw [cnt_eq _ (fun h e => by cases e)]
    unfold many upTo
    rw [e]
    have hp : 0 < 26 ^ n := Nat.pow_pos (by decide)
    generalize 26 ^ n = P at *
    split
    · omega
    · have : ((P : Int) - 1).toNat = P - 1 := by omega
      rw [this]; omega
  | some h =>
    have e := h1 h hh
    have hlt : h ≤ 26 ^ n := by
      unfold hiOf at hh
      split at hh
      · cases hh
      · injection hh with hh
        have := numF_lt hb n
        omega
    have e2 : cntN (numb a n) (some h) (26 ^ n) = cntN (numb a n) (some h) h := by
      have := cnt_none (low := numb a n) (hi := some h) (p := h) (26 ^ n - h) (fun x x1 x2 => by
        rw [← Bool.not_eq_true, okN_iff]
        rintro ⟨_, c, _⟩
        have := c h rfl; omega)
      rwa [show h + (26 ^ n - h) = 26 ^ n by omega] at this
    rw [e2, cnt_eq _ (fun h' e' => by injection e' with e'; omega)]
    unfold many upTo
    rw [e]
    split
    · omega
    · have : ((h : Int) - 1).toNat = h - 1 := by omega
      rw [this]; omega
/-- The number at a quarter: it fits, and just so many fit ahead of it. -/
theorem val_cnt {a b : ByteArray} {n : Nat} (h : 1 ≤ many a b n) : okN (numb a n) (hiOf b.toList n) (val a b n) = true ∧ (cntN (numb a n) (hiOf b.toList n) (val a b n) : Int) = (many a b n - 1) / 4 := by
  obtain ⟨p1, p2, p3⟩ := val_props h
  obtain ⟨h1, h2⟩ := hiOf_high (b := b) (n := n)
  have hle : ∀ h, hiOf b.toList n = some h → val a b n < h := fun k e => by have := h1 k e; omega
  refine ⟨okN_iff.2 ⟨p1, hle, p3⟩, ?_⟩
  rw [cnt_eq _ (fun k e => Nat.le_of_lt (hle k e))]
  have hlow : ¬ high b n < numb a n := fun h2 => by have := many_low h2; omega
  have hv := val_eq hlow (by omega)
  unfold upTo
  generalize val a b n = v at *
  generalize many a b n = M at *
  generalize numb a n = L at *
  omega
end Go.Proofs.YtgmdnmdniidngaaDoor

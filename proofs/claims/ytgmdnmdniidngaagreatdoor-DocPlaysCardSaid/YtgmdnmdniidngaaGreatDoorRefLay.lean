/- 15 texts in one: each says ahead of itself what is proved, and its conditions. -/
import Derived.Deep.CutBlock
import Derived.Deep.RegionHeld3
import Derived.Test.YtgmdnmdniidngaaGreatDoorBookAt
import Derived.Test.YtgmdnmdniidngaaGreatDoorBookLaw
import Derived.Test.YtgmdnmdniidngaaGreatDoorBookText
import Derived.Test.YtgmdnmdniidngaaGreatDoorDocGo
import Derived.Test.YtgmdnmdniidngaaGreatDoorDocHelp
import Derived.Test.YtgmdnmdniidngaaGreatDoorDocKnown
import Derived.Test.YtgmdnmdniidngaaGreatDoorDocRow
import Derived.Test.YtgmdnmdniidngaaGreatDoorEditSpec
import Derived.Test.YtgmdnmdniidngaaGreatDoorLetter
import Derived.Test.YtgmdnmdniidngaaGreatDoorPlace4
import Derived.Test.YtgmdnmdniidngaaGreatDoorRefIn
/- The o-th leaf that is seen: plain. Conditions: none. -/
namespace Go.Proofs.YtgmdnmdniidngaaGreatDoor
set_option linter.unusedVariables false
theorem textL_cons (x : LLeaf) (l : List LLeaf) : textL (x :: l) = (if seenB x = true then [u8 x.letter] else []) ++ textL l := by
  unfold textL
  rw [List.filter_cons]
  split <;> simp
theorem nth_seen : ∀ (l : List LLeaf) (k o : Nat), o < (textL l).length → ∃ n, ∃ hn : n < l.length, nthFrom k l (o : Int) = ((k + n : Nat) : Int) ∧ seenB l[n] = true ∧ (textL (l.take n)).length = o := by
  intro l
  induction l with
  | nil => intro k o h; simp [textL] at h
  | cons x l ih =>
    intro k o h
    rw [textL_cons] at h
    unfold nthFrom
    by_cases hs : seenB x = true
    · rw [if_pos hs] at h ⊢
      rcases Nat.eq_zero_or_pos o with h0 | h0
      · subst h0
        exact ⟨0, by simp, by simp, hs, by simp [textL]⟩
      · obtain ⟨o', rfl⟩ : ∃ o', o = o' + 1 := ⟨o - 1, by omega⟩
        simp only [List.length_append, List.length_cons, List.length_nil] at h
        obtain ⟨n, hn, h1, h2, h3⟩ := ih (k + 1) o' (by omega)
        refine ⟨n + 1, by simp; omega, ?_, by simpa using h2, ?_⟩
        · rw [if_neg (by omega), show ((o' + 1 : Nat) : Int) - 1 = (o' : Int) by omega, h1]; omega
        · rw [List.take_succ_cons, textL_cons, if_pos hs]; simp [h3]
    · rw [if_neg hs] at h ⊢
      obtain ⟨n, hn, h1, h2, h3⟩ := ih (k + 1) o (by simpa using h)
      refine ⟨n + 1, by simp; omega, by rw [h1]; omega, by simpa using h2, ?_⟩
      rw [List.take_succ_cons, textL_cons, if_neg hs]; simpa using h3
end Go.Proofs.YtgmdnmdniidngaaGreatDoor
/- What lies between: above the one, below the other, a place of its author. Plain lemmas. Conditions: stated with each. -/
namespace Go.Proofs.YtgmdnmdniidngaaGreatDoor
open Go.RowKit
set_option linter.unusedVariables false

theorem less_asymm : ∀ (x y : List UInt8), Op.bytesLess x y = true → Op.bytesLess y x = false := by
  intro x
  induction x with
  | nil => intro y h; cases y <;> simp [Op.bytesLess] at h ⊢
  | cons a x ih =>
    intro y h
    cases y with
    | nil => simp [Op.bytesLess] at h
    | cons b y =>
      simp only [Op.bytesLess, Bool.or_eq_true, Bool.and_eq_true, decide_eq_true_eq, beq_iff_eq, Bool.or_eq_false_iff, Bool.and_eq_false_iff, decide_eq_false_iff_not, beq_eq_false_iff_ne] at h ⊢
      rcases h with h | ⟨rfl, h⟩
      · refine ⟨fun h2 => ?_, .inl (fun h2 => ?_)⟩
        · have h1 := UInt8.lt_iff_toNat_lt.1 h; have h3 := UInt8.lt_iff_toNat_lt.1 h2; omega
        · subst h2; have h1 := UInt8.lt_iff_toNat_lt.1 h; omega
      · exact ⟨fun h2 => by have h3 := UInt8.lt_iff_toNat_lt.1 h2; omega, .inr (ih y h)⟩
theorem less_irrefl (x : List UInt8) : Op.bytesLess x x = false := by
  cases h : Op.bytesLess x x
  · rfl
  · rw [less_asymm x x h] at h; cases h

/-- All are letters from a to z. -/
def LowL (l : List UInt8) : Prop := ∀ c ∈ l, 97 ≤ c.toNat ∧ c.toNat ≤ 122
/-- The number of the first n letters, from the front. -/
def numF : List UInt8 → Nat → Nat
  | _, 0 => 0
  | [], _ + 1 => 0
  | c :: t, n + 1 => (c.toNat - 97) * 26 ^ n + numF t n
def digL (l : List UInt8) (i : Nat) : Nat := match l[i]? with | some c => c.toNat - 97 | none => 0
theorem numF_succ (l : List UInt8) (n : Nat) : numF l (n + 1) = numF l n * 26 + digL l n := by
  induction n generalizing l with
  | zero => cases l <;> simp [numF, digL]
  | succ n ih =>
    cases l with
    | nil => simp [numF, digL]
    | cons c t =>
      rw [numF, ih t, numF]
      have : digL (c :: t) (n + 1) = digL t n := by simp [digL]
      rw [this, Nat.add_mul, Nat.pow_succ, Nat.mul_assoc]
      omega
theorem dig_eq (s : ByteArray) (i : Nat) : dig s i = digL s.toList i := by
  unfold dig digL
  have hl := toList_len s
  by_cases h : i < s.size
  · rw [if_pos h, byteAt_in h, List.getElem?_eq_getElem (by omega)]
    have : s.toList[i]'(by omega) = s[i] := by
      simp only [ByteArray.toList_eq]
      rfl
    simp [this]
  · rw [if_neg h, List.getElem?_eq_none (by omega)]
theorem numb_eq (s : ByteArray) (n : Nat) : numb s n = numF s.toList n := by
  induction n with
  | zero => simp [numb, numF]
  | succ n ih => rw [numF_succ, ← ih, ← dig_eq]; rfl
theorem low_of {s : ByteArray} (h : Letters s) : LowL s.toList := by
  intro c hc
  obtain ⟨i, hi, rfl⟩ := List.mem_iff_getElem.1 hc
  have hl := toList_len s
  have := h i (by omega)
  rw [byteAt_in (by omega)] at this
  have e : s.toList[i] = s[i]'(by omega) := by
    simp only [ByteArray.toList_eq]
    rfl
  rw [e]
  exact this
theorem numF_lt {l : List UInt8} (h : LowL l) (n : Nat) : numF l n < 26 ^ n := by
  induction n generalizing l with
  | zero => simp [numF]
  | succ n ih =>
    cases l with
    | nil => simp [numF]; exact Nat.pos_of_ne_zero (by simp)
    | cons c t =>
      have h1 := h c (by simp)
      have h2 := ih (l := t) (fun d hd => h d (by simp [hd]))
      rw [numF, Nat.pow_succ]
      have h3 : (c.toNat - 97) * 26 ^ n ≤ 25 * 26 ^ n := Nat.mul_le_mul_right _ (by omega)
      omega
theorem less_num {x : List UInt8} (r : List UInt8) (hx : LowL x) : ∀ {l : List UInt8}, LowL l → numF l x.length < numF x x.length → Op.bytesLess l (x ++ r) = true := by
  induction x with
  | nil => intro l _ h; simp [numF] at h
  | cons d u ih =>
    intro l hl h
    cases l with
    | nil => rfl
    | cons c t =>
      have hd := hx d (by simp)
      have hc := hl c (by simp)
      have hu : LowL u := fun e he => hx e (by simp [he])
      have ht : LowL t := fun e he => hl e (by simp [he])
      simp only [List.length_cons, numF] at h
      have h1 := numF_lt hu u.length
      have h2 := numF_lt ht u.length
      simp only [List.cons_append, Op.bytesLess, Bool.or_eq_true, Bool.and_eq_true, decide_eq_true_eq, beq_iff_eq]
      rcases Nat.lt_trichotomy c.toNat d.toNat with hlt | heq | hgt
      · exact .inl (UInt8.lt_iff_toNat_lt.2 hlt)
      · exact .inr ⟨UInt8.toNat_inj.1 heq, ih hu ht (by rw [heq] at h; omega)⟩
      · exfalso
        have : (d.toNat - 97 + 1) * 26 ^ u.length ≤ (c.toNat - 97) * 26 ^ u.length := Nat.mul_le_mul_right _ (by omega)
        rw [Nat.add_mul] at this
        omega
theorem num_less {x : List UInt8} (r : List UInt8) (hx : LowL x) : ∀ {l : List UInt8}, LowL l → numF x x.length < numF l x.length → Op.bytesLess (x ++ r) l = true := by
  induction x with
  | nil => intro l _ h; simp [numF] at h
  | cons d u ih =>
    intro l hl h
    cases l with
    | nil => simp [numF] at h
    | cons c t =>
      have hd := hx d (by simp)
      have hc := hl c (by simp)
      have hu : LowL u := fun e he => hx e (by simp [he])
      have ht : LowL t := fun e he => hl e (by simp [he])
      simp only [List.length_cons, numF] at h
      have h1 := numF_lt hu u.length
      have h2 := numF_lt ht u.length
      simp only [List.cons_append, Op.bytesLess, Bool.or_eq_true, Bool.and_eq_true, decide_eq_true_eq, beq_iff_eq]
      rcases Nat.lt_trichotomy d.toNat c.toNat with hlt | heq | hgt
      · exact .inl (UInt8.lt_iff_toNat_lt.2 hlt)
      · exact .inr ⟨UInt8.toNat_inj.1 heq, ih hu ht (by rw [heq] at h; omega)⟩
      · exfalso
        have : (c.toNat - 97 + 1) * 26 ^ u.length ≤ (d.toNat - 97) * 26 ^ u.length := Nat.mul_le_mul_right _ (by omega)
        rw [Nat.add_mul] at this
        omega
theorem let_nat (x : Nat) : (UInt8.ofNat (97 + x % 26)).toNat = 97 + x % 26 := by simp; omega
theorem lets_low (x n : Nat) : LowL (lets x n) := by
  induction n generalizing x with
  | zero => intro c hc; simp [lets] at hc
  | succ n ih =>
    intro c hc
    simp only [lets, List.mem_append, List.mem_singleton] at hc
    rcases hc with hc | rfl
    · exact ih _ c hc
    · rw [let_nat]; omega
theorem numF_snoc (l : List UInt8) (c : UInt8) : numF (l ++ [c]) (l.length + 1) = numF l l.length * 26 + (c.toNat - 97) := by
  rw [numF_succ]
  congr 1
  · have : ∀ (n : Nat) (l m : List UInt8), n ≤ l.length → numF (l ++ m) n = numF l n := by
      intro n
      induction n with
      | zero => intro l m _; simp [numF]
      | succ n ih =>
        intro l m h
        cases l with
        | nil => simp at h
        | cons a l => simp only [List.cons_append, numF]; rw [ih l m (by simpa using h)]
    rw [this _ _ _ (Nat.le_refl _)]
  · simp [digL]
theorem lets_num {x n : Nat} (h : x < 26 ^ n) : numF (lets x n) n = x := by
  induction n generalizing x with
  | zero => simp at h; subst h; simp [numF]
  | succ n ih =>
    have h2 : x / 26 < 26 ^ n := by rw [Nat.div_lt_iff_lt_mul (by decide)]; rwa [Nat.pow_succ] at h
    have h3 := numF_snoc (lets (x / 26) n) (UInt8.ofNat (97 + x % 26))
    rw [lets_len, ih h2, let_nat] at h3
    rw [lets, h3]
    omega

/-- Where the quarter is. -/
theorem quarter_at {a b : ByteArray} : ∀ (f n : Nat), quarterFrom a b n f ≠ [] → ∃ m, n ≤ m ∧ m < n + f ∧ 1 ≤ many a b m ∧ quarterFrom a b n f = lets (val a b m) m := by
  intro f
  induction f with
  | zero => intro n h; simp [quarterFrom] at h
  | succ f ih =>
    intro n h
    by_cases hm : many a b n < 1
    · rw [from_next hm] at h ⊢
      obtain ⟨m, h1, h2, h3⟩ := ih (n + 1) h
      exact ⟨m, by omega, by omega, h3⟩
    · exact ⟨n, by omega, by omega, by omega, from_here hm⟩
theorem val_props {a b : ByteArray} {m : Nat} (h : 1 ≤ many a b m) : numb a m < val a b m ∧ (val a b m : Int) ≤ high b m ∧ val a b m % 26 ≠ 0 := by
  have hlow : ¬ high b m < numb a m := fun h2 => by have := many_low h2; omega
  have h1 := many_eq hlow
  have h2 := val_eq hlow (by omega)
  generalize many a b m = M at *
  generalize high b m = H at *
  generalize numb a m = L at *
  generalize val a b m = v at *
  refine ⟨?_, ?_, ?_⟩ <;> omega

structure Good (a b : ByteArray) (who : Int) (p : ByteArray) : Prop where
  check : placeErr p = 0
  who : ((byteAt p (p.size - 1) - 97 : Nat) : Int) = who
  long : (p.size : Int) = (quarter a b).length + 1
  room : roomErr a b = 0
  above : Op.bytesLess p.toList a.toList = false
  other : (p.toList == a.toList) = false
  below : b.size ≠ 0 → Op.bytesLess p.toList b.toList = true
theorem byteAt_strOf (l : List UInt8) (i : Nat) (h : i < l.length) : byteAt (strOf l) i = l[i].toNat := by
  rw [byteAt_in (by rw [strOf_size]; exact h)]
  rfl
theorem between_room {a b : ByteArray} {who : Int} (h : betweenErr a b who = 0) : 1 ≤ who ∧ who ≤ 8 ∧ roomErr a b = 0 := by
  unfold betweenErr at h
  split at h
  · cases h
  · exact ⟨by omega, by omega, h⟩
theorem room_parts {a b : ByteArray} (h : roomErr a b = 0) : readyErr a b = 0 ∧ quarter a b ≠ [] := by
  unfold roomErr at h
  split at h
  · rename_i h1; exact absurd h h1
  · rename_i h1
    split at h
    · cases h
    · rename_i h2; exact ⟨Decidable.byContradiction h1, h2⟩
theorem good_of {a b : ByteArray} {who : Int} (h : betweenErr a b who = 0) : Good a b who (strOf (betweenRes a b who)) := by
  obtain ⟨hw1, hw2, hroom⟩ := between_room h
  obtain ⟨hready, hq⟩ := room_parts hroom
  obtain ⟨⟨ka, la⟩, kb, lb⟩ := ready_ok hready
  have hres : betweenRes a b who = quarter a b ++ [UInt8.ofNat (97 + who.toNat)] := if_pos h
  obtain ⟨m, hm1, hm2, hmany, hqm⟩ := quarter_at 11 1 hq
  change quarter a b = _ at hqm
  obtain ⟨v1, v2, v3⟩ := val_props hmany
  have hhigh := (high_le (a := a) lb m (by omega)).1
  have hv26 : val a b m < 26 ^ m := by
    have h3 := numb_lt lb m
    unfold high at v2
    split at v2
    · have : 0 < 26 ^ m := Nat.pos_of_ne_zero (by simp)
      omega
    · omega
  have hnum := lets_num hv26
  have hlow := lets_low (val a b m) m
  have hlen := lets_len (val a b m) m
  have hc : (UInt8.ofNat (97 + who.toNat)).toNat = 97 + who.toNat := by simp; omega
  have hless : Op.bytesLess a.toList (betweenRes a b who) = true := by
    rw [hres, hqm]
    refine less_num _ hlow (low_of la) ?_
    rw [hlen, ← numb_eq, hnum]
    exact v1
  have hal : LowL (betweenRes a b who) := by
    rw [hres, hqm]
    intro c hcm
    rcases List.mem_append.1 hcm with h1 | h1
    · exact hlow c h1
    · simp only [List.mem_singleton] at h1
      subst h1
      rw [hc]; omega
  have hL : (betweenRes a b who).length = m + 1 := by rw [hres, hqm]; simp [hlen]
  have hlast : (betweenRes a b who)[m]'(by omega) = UInt8.ofNat (97 + who.toNat) := by
    simp only [hres, hqm]
    rw [List.getElem_append_right (by omega)]
    simp
  have hlets : ∃ k, m = k + 1 := ⟨m - 1, by omega⟩
  obtain ⟨k, rfl⟩ := hlets
  have hprev : ((betweenRes a b who)[k]'(by omega)).toNat ≠ 97 := by
    simp only [hres, hqm]
    rw [List.getElem_append_left (by omega)]
    simp only [lets]
    rw [List.getElem_append_right (by rw [lets_len]; omega)]
    simp only [lets_len, Nat.sub_self, List.getElem_cons_zero, let_nat]
    omega
  have hsz : (strOf (betweenRes a b who)).size = k + 2 := by rw [strOf_size, hL]
  have b1 : byteAt (strOf (betweenRes a b who)) (k + 1) = 97 + who.toNat := by rw [byteAt_strOf _ _ (by omega), hlast, hc]
  refine ⟨?_, ?_, ?_, hroom, ?_, ?_, ?_⟩
  · unfold placeErr
    rw [if_neg (by omega), if_pos]
    refine ⟨fun i hi => ?_, by omega, ?_, ?_, ?_⟩
    · rw [hsz] at hi
      rw [byteAt_strOf _ _ (by omega)]
      exact hal _ (List.getElem_mem _)
    · rw [hsz, show k + 2 - 1 = k + 1 by omega, b1]; omega
    · rw [hsz, show k + 2 - 1 = k + 1 by omega, b1]; omega
    · rw [hsz, show k + 2 - 2 = k by omega, byteAt_strOf _ _ (by omega)]; exact hprev
  · rw [hsz, show k + 2 - 1 = k + 1 by omega, b1]; omega
  · rw [hsz, hqm, hlen]; omega
  · rw [strOf_toList]; exact less_asymm _ _ hless
  · rw [strOf_toList]
    cases hh : (betweenRes a b who == a.toList)
    · rfl
    · exfalso
      rw [beq_iff_eq] at hh
      rw [hh, less_irrefl] at hless
      cases hless
  · intro hb
    rw [strOf_toList, hres, hqm]
    refine num_less _ hlow (low_of lb) ?_
    rw [hlen, hnum, ← numb_eq]
    unfold high at v2
    rw [if_neg hb] at v2
    omega
theorem same_iff {a b : ByteArray} {who other : Int} (h : betweenErr a b who = 0) (h2 : betweenErr a b other = 0) :
    (((strOf (betweenRes a b other)).toList == (strOf (betweenRes a b who)).toList) == (other == who)) = true := by
  obtain ⟨hw1, hw2, hroom⟩ := between_room h
  obtain ⟨ho1, ho2, _⟩ := between_room h2
  have e1 : betweenRes a b who = quarter a b ++ [UInt8.ofNat (97 + who.toNat)] := if_pos h
  have e2 : betweenRes a b other = quarter a b ++ [UInt8.ofNat (97 + other.toNat)] := if_pos h2
  rw [strOf_toList, strOf_toList, beq_iff_eq, Bool.eq_iff_iff, beq_iff_eq, beq_iff_eq, e1, e2]
  constructor
  · intro hh
    have hh2 := List.append_cancel_left hh
    simp only [List.cons.injEq, and_true] at hh2
    have h3 := congrArg UInt8.toNat hh2
    have c1 : (UInt8.ofNat (97 + who.toNat)).toNat = 97 + who.toNat := by simp; omega
    have c2 : (UInt8.ofNat (97 + other.toNat)).toNat = 97 + other.toNat := by simp; omega
    omega
  · intro hh; rw [hh]
end Go.Proofs.YtgmdnmdniidngaaGreatDoor
/- What an insert makes of a book: plain. Conditions: none. -/
namespace Go.Proofs.YtgmdnmdniidngaaGreatDoor
open Go.RowKit
set_option linter.unusedVariables false
theorem good_lt {a b : ByteArray} {who : Int} {p : ByteArray} (h : Good a b who p) : lt a p = true ∧ (b.size ≠ 0 → lt p b = true) := by
  refine ⟨?_, h.below⟩
  cases h1 : lt a p with
  | true => rfl
  | false =>
    have h2 : lt p a = false := h.above
    have := lt_total h1 h2
    subst this
    have := h.other
    simp at this
/-- Places of a are up to left, of b from right on. -/
structure Gap (a b : List LLeaf) (left right : ByteArray) : Prop where
  low : ∀ x ∈ a, x.place = left ∨ lt x.place left = true
  high : ∀ x ∈ b, right.size ≠ 0 ∧ (x.place = right ∨ lt right x.place = true)
theorem Gap.at_ {a b : List LLeaf} {left right : ByteArray} (h : Gap a b left right) {who : Int} {p : ByteArray} (hp : Good left right who p) : (∀ x ∈ a, lt x.place p = true) ∧ ∀ x ∈ b, lt p x.place = true := by
  obtain ⟨h1, h2⟩ := good_lt hp
  refine ⟨fun x hx => ?_, fun x hx => ?_⟩
  · rcases h.low x hx with h3 | h3
    · rw [h3]; exact h1
    · exact lt_trans h3 h1
  · obtain ⟨h4, h3⟩ := h.high x hx
    rcases h3 with h3 | h3
    · rw [h3]; exact h2 h4
    · exact lt_trans (h2 h4) h3
theorem Gap.next {a b : List LLeaf} {left right : ByteArray} (h : Gap a b left right) {who : Int} {p : ByteArray} (hp : Good left right who p) (n : Int) (s : Bool) : Gap (a ++ [⟨p, n, s⟩]) b p right := by
  obtain ⟨h1, h2⟩ := h.at_ hp
  refine ⟨fun x hx => ?_, h.high⟩
  rcases List.mem_append.1 hx with hx | hx
  · exact .inr (h1 x hx)
  · simp at hx; subst hx; exact .inl rfl
theorem gap_none {a b : List LLeaf} {p : ByteArray} (hr : Rising (a ++ b)) (h1 : ∀ x ∈ a, lt x.place p = true) (h2 : ∀ x ∈ b, lt p x.place = true) : hasAt (a ++ b) p = false := by
  cases h : hasAt (a ++ b) p with
  | false => rfl
  | true =>
    obtain ⟨x, hx, he⟩ := (hasAt_iff hr p).1 h
    rcases List.mem_append.1 hx with hx | hx
    · exact absurd he (lt_ne (h1 x hx))
    · exact absurd he.symm (lt_ne (h2 x hx))
theorem upd_gap {a b : List LLeaf} {x : LLeaf} (hr : Rising (a ++ b)) (h1 : ∀ y ∈ a, lt y.place x.place = true) (h2 : ∀ y ∈ b, lt x.place y.place = true) : upd (a ++ b) x = a ++ x :: b := by
  rw [upd_eq hr, List.filter_append, List.filter_append]
  have e1 : a.filter (fun y => lt y.place x.place) = a := List.filter_eq_self.2 h1
  have e2 : b.filter (fun y => lt y.place x.place) = [] := List.filter_eq_nil_iff.2 fun y hy => by rw [lt_asymm (h2 y hy)]; decide
  have e3 : a.filter (fun y => lt x.place y.place) = [] := List.filter_eq_nil_iff.2 fun y hy => by rw [lt_asymm (h1 y hy)]; decide
  have e4 : b.filter (fun y => lt x.place y.place) = b := List.filter_eq_self.2 h2
  rw [e1, e2, e3, e4]; simp
theorem upd_mid {a b : List LLeaf} {x y : LLeaf} (hr : Rising (a ++ y :: b)) (he : x.place = y.place) : upd (a ++ y :: b) x = a ++ x :: b := by
  have hp := rising_pair.1 hr
  rw [List.pairwise_append, List.pairwise_cons] at hp
  obtain ⟨_, ⟨h2, _⟩, h3⟩ := hp
  have e0 : a.filter (fun z => lt z.place x.place) = a := List.filter_eq_self.2 fun z hz => by rw [he]; exact h3 z hz y (by simp)
  have e1 : b.filter (fun z => lt z.place x.place) = [] := List.filter_eq_nil_iff.2 fun z hz => by rw [he, lt_asymm (h2 z hz)]; decide
  have e2 : a.filter (fun z => lt x.place z.place) = [] := List.filter_eq_nil_iff.2 fun z hz => by rw [he, lt_asymm (h3 z hz y (by simp))]; decide
  have e3 : b.filter (fun z => lt x.place z.place) = b := List.filter_eq_self.2 fun z hz => by rw [he]; exact h2 z hz
  rw [upd_eq hr, List.filter_append, List.filter_append, List.filter_cons, List.filter_cons, e0, e1, e2, e3, he, lt_irrefl]
  simp
namespace LDoc
/-- A new op that goes. -/
theorem apply_new {d : LDoc} (hk : d.Ok) {o : LOp} (h : d.applyE o = 0) (hn : nOf d.known o.dot < o.dot.n) :
    d.applyB o = true ∧ opErr o = 0 ∧ addErr d.known o.dot = 0 ∧ d.turnE o = 0 ∧ d.apply o = { d.turn o with known := addRes d.known o.dot, ops := d.ops ++ [o] } := by
  have hh : hasRes d.known o.dot = false := by
    unfold hasRes
    rw [Bool.and_eq_false_iff]
    exact .inr (decide_eq_false (by omega))
  have hb : d.applyB o = true := by unfold applyB; rw [hh, decide_eq_true h]; simp
  obtain ⟨h1, h2, h3, h4, h5⟩ := applyB_ok hk hb
  exact ⟨hb, h1, h2, h4, by unfold apply; rw [if_pos hb]⟩
end LDoc
def leafOf (o : LOp) : LLeaf := ⟨o.place, o.letter, false⟩
/-- The ops of letters that are typed. -/
def typedOps (who : Int) (right : ByteArray) : List UInt8 → ByteArray → Int → List LOp
  | [], _, _ => []
  | c :: t, left, n => ⟨⟨who, n + 1⟩, 1, strOf (betweenRes left right who), c.toNat, []⟩ :: typedOps who right t (strOf (betweenRes left right who)) (n + 1)
def TypedOk (who : Int) (right : ByteArray) : List UInt8 → ByteArray → Prop
  | [], _ => True
  | c :: t, left => betweenErr left right who = 0 ∧ TypedOk who right t (strOf (betweenRes left right who))
theorem typed_ops (right : ByteArray) : ∀ (t : List UInt8) (left : ByteArray) (m : LMk), (LMk.typed right t left m).2 = 0 → (LMk.typed right t left m).1.ops = m.ops ++ typedOps m.who right t left m.n ∧ TypedOk m.who right t left
  | [], left, m => fun _ => ⟨by simp [LMk.typed, typedOps], trivial⟩
  | c :: t, left, m => fun h => by
    unfold LMk.typed at h ⊢
    by_cases hb : betweenErr left right m.who ≠ 0
    · rw [if_pos hb] at h; exact absurd h hb
    · rw [if_neg hb] at h ⊢
      obtain ⟨h1, h2⟩ := typed_ops right t _ _ h
      refine ⟨?_, by omega, h2⟩
      rw [h1]
      simp [LMk.wr, LMk.add, LMk.put, LMk.next, typedOps]
theorem typedOps_len (who : Int) (right : ByteArray) : ∀ (t : List UInt8) (left : ByteArray) (n : Int), (typedOps who right t left n).length = t.length
  | [], _, _ => rfl
  | c :: t, left, n => by simp [typedOps, typedOps_len who right t]
theorem nOf_who (l : List Int) {d e : LDot} (h : d.who = e.who) : nOf l d = nOf l e := by unfold nOf; rw [h]
/-- Letters that are typed stand where they were typed. -/
theorem typed_do (who : Int) (right : ByteArray) : ∀ (t : List UInt8) (left : ByteArray) (n : Int) (d : LDoc) (a b : List LLeaf), d.Ok → d.book = a ++ b → Gap a b left right → nOf d.known ⟨who, 0⟩ = n → TypedOk who right t left →
    d.doE (typedOps who right t left n) = 0 →
    (d.doR (typedOps who right t left n)).book = a ++ (typedOps who right t left n).map leafOf ++ b ∧ (d.doR (typedOps who right t left n)).marks = d.marks ∧ (d.doR (typedOps who right t left n)).joined = d.joined ∧
      (d.doR (typedOps who right t left n)).ops = d.ops ++ typedOps who right t left n ∧ nOf (d.doR (typedOps who right t left n)).known ⟨who, 0⟩ = n + t.length
  | [], left, n, d, a, b => fun hk hb hg hn ht hd => by simp [typedOps, LDoc.doR, hb, hn]
  | c :: t, left, n, d, a, b => fun hk hb hg hn ht hd => by
    obtain ⟨t1, t2⟩ := ht
    have hgood := good_of t1
    rw [typedOps] at hd ⊢
    generalize hp : strOf (betweenRes left right who) = p at *
    unfold LDoc.doE at hd
    unfold LDoc.doR
    by_cases he : d.applyE ⟨⟨who, n + 1⟩, 1, p, c.toNat, []⟩ ≠ 0
    · rw [if_pos he] at hd; exact absurd hd he
    rw [if_neg he] at hd ⊢
    have hn' : nOf d.known ⟨who, n + 1⟩ = n := (nOf_who _ rfl).trans hn
    obtain ⟨q1, q2, q3, q4, q5⟩ := LDoc.apply_new hk (o := ⟨⟨who, n + 1⟩, 1, p, c.toNat, []⟩) (by omega) (by rw [hn']; show n < n + 1; omega)
    obtain ⟨g1, g2⟩ := hg.at_ hgood
    have hr : Rising (a ++ b) := by rw [← hb]; exact hk.book.rising
    have hno := gap_none hr g1 g2
    have hturn : d.turn ⟨⟨who, n + 1⟩, 1, p, c.toNat, []⟩ = { d with book := a ++ ⟨p, c.toNat, false⟩ :: b } := by
      unfold LDoc.turnE at q4
      rw [if_pos rfl] at q4
      unfold LDoc.turn
      rw [if_pos rfl, if_pos q4, write_upd, hb, no_old hno]
      rw [upd_gap hr g1 g2]
      rfl
    rw [hturn] at q5
    obtain ⟨a1, a2, a3⟩ := add_ok q3
    have hk2 := LDoc.apply_ok hk ⟨⟨who, n + 1⟩, 1, p, c.toNat, []⟩
    rw [q5] at hk2 hd ⊢
    have hn2 : nOf (addRes d.known ⟨who, n + 1⟩) ⟨who, 0⟩ = n + 1 := by
      rw [nOf_who _ (show (⟨who, 0⟩ : LDot).who = (⟨who, n + 1⟩ : LDot).who from rfl), nOf_add a1 a2 a2, if_pos rfl]
    obtain ⟨r1, r2, r3, r4, r5⟩ := typed_do who right t p (n + 1) _ (a ++ [⟨p, c.toNat, false⟩]) b hk2 (by simp) (hg.next hgood _ _) hn2 t2 hd
    refine ⟨?_, r2, r3, ?_, ?_⟩
    · rw [r1]; simp [leafOf]
    · rw [r4]; simp
    · rw [r5]; simp; omega
theorem typed_letters (who : Int) (right : ByteArray) : ∀ (t : List UInt8) (left : ByteArray) (n : Int), t.any badC = false → textL ((typedOps who right t left n).map leafOf) = t
  | [], _, _ => fun _ => rfl
  | c :: t, left, n => fun h => by
    rw [List.any_cons, Bool.or_eq_false_iff] at h
    have h1 : letterB (c.toNat : Int) = true := by have := h.1; unfold badC at this; simpa using this
    have h2 := letterB_range h1
    rw [typedOps, List.map_cons, textL_cons, typed_letters who right t _ _ h.2]
    have hs : seenB (leafOf ⟨⟨who, n + 1⟩, 1, strOf (betweenRes left right who), c.toNat, []⟩) = true := by
      simp [seenB, leafOf]; omega
    rw [if_pos hs]
    simp [leafOf, u8]
/-- Where an insert goes. -/
theorem ins_gap {l : List LLeaf} (hb : BookOk l) {off : Int} (h0 : 0 ≤ off) (h1 : off ≤ ((textOf l).size : Int)) :
    idxOf l off ≤ l.length ∧ ((textL (l.take (idxOf l off))).length : Int) = off ∧ Gap (l.take (idxOf l off)) (l.drop (idxOf l off)) (leftOf l off) (rightOf l (idxOf l off)) := by
  have hsz : (textOf l).size = (textL l).length := strOf_size _
  have hright : ∀ i, i ≤ l.length → ∀ x ∈ l.drop i, (rightOf l i).size ≠ 0 ∧ (x.place = rightOf l i ∨ lt (rightOf l i) x.place = true) := fun i hi x hx => by
    obtain ⟨j, hj, rfl⟩ := List.getElem_of_mem hx
    rw [List.length_drop] at hj
    have hil : i < l.length := by omega
    have e : rightOf l i = l[i].place := by unfold rightOf; rw [if_pos hil]; simp [List.getD, hil]
    rw [e, List.getElem_drop]
    refine ⟨?_, ?_⟩
    · have := (okPlace (hb.leafs _ (List.getElem_mem hil)).place).2.2.1; omega
    · rcases Nat.eq_zero_or_pos j with hj0 | hj0
      · subst hj0; exact .inl rfl
      · exact .inr (rising_lt hb.rising i (i + j) hil (by omega) (by omega))
  by_cases hp : 0 < off
  · obtain ⟨o, rfl⟩ : ∃ o : Nat, off = (o : Int) + 1 := ⟨(off - 1).toNat, by omega⟩
    obtain ⟨n, hn, e1, e2, e3⟩ := nth_seen l 0 o (by omega)
    have en : (nthFrom 0 l ((o : Int) + 1 - 1)).toNat = n := by rw [show (o : Int) + 1 - 1 = o by omega, e1]; omega
    have hi : idxOf l ((o : Int) + 1) = n + 1 := by unfold idxOf; rw [if_pos hp, en]
    have hl : leftOf l ((o : Int) + 1) = l[n].place := by unfold leftOf; rw [if_pos hp, en]; simp [List.getD, hn]
    rw [hi, hl]
    refine ⟨by omega, ?_, fun x hx => ?_, hright (n + 1) (by omega)⟩
    · rw [textL_take hn, if_pos e2, List.length_append, e3]; simp
    · obtain ⟨j, hj, rfl⟩ := List.getElem_of_mem hx
      rw [List.length_take] at hj
      rw [List.getElem_take]
      by_cases hjn : j = n
      · subst hjn; exact .inl rfl
      · exact .inr (rising_lt hb.rising j n (by omega) hn (by omega))
  · obtain rfl : off = 0 := by omega
    have hi : idxOf l 0 = 0 := by unfold idxOf; rw [if_neg (by omega)]
    rw [hi]
    exact ⟨by omega, by simp [textL], fun x hx => by simp at hx, hright 0 (by omega)⟩
theorem insErr_zero {l : List LLeaf} {off : Int} {text : ByteArray} (h : insErr l off text = 0) : text.size ≤ 200 ∧ text.toList.any badC = false ∧ 0 ≤ off ∧ off ≤ ((textOf l).size : Int) := by
  unfold insErr at h
  split at h
  · omega
  split at h
  · omega
  split at h
  · omega
  rename_i h1 h2 h3
  exact ⟨by omega, by simpa using h2, by omega, by omega⟩
theorem who_dot {who : Int} (h : LDoc.whoE who = 0) : dotErr ⟨who, 1⟩ = 0 ∧ 1 ≤ who ∧ who ≤ 8 := by
  unfold LDoc.whoE at h
  split at h
  · omega
  · refine ⟨?_, by omega, by omega⟩
    unfold dotErr
    rw [if_pos]
    simp only
    omega
namespace LDoc
/-- What an insert is. -/
theorem ins_ok {d : LDoc} {who off : Int} {text : ByteArray} (h : d.insE who off text = 0) : whoE who = 0 ∧ insErr d.book off text = 0 ∧
    d.insR who off text = typedOps who (rightOf d.book (idxOf d.book off)) text.toList (leftOf d.book off) (nOf d.known ⟨who, 0⟩) ∧ TypedOk who (rightOf d.book (idxOf d.book off)) text.toList (leftOf d.book off) := by
  have h0 := h
  unfold insE at h
  split at h
  · omega
  rename_i h1
  unfold LMk.ins at h
  split at h
  · rename_i h2; exact absurd h h2
  rename_i h2
  obtain ⟨t1, t2⟩ := typed_ops _ _ _ _ h
  refine ⟨by omega, by omega, ?_, t2⟩
  unfold insR
  rw [if_pos h0]
  unfold LMk.ins
  rw [if_neg h2, t1]
  simp [maker]
/-- What is typed is there. -/
theorem ins_does {d : LDoc} (hk : d.Ok) {who off : Int} {text : ByteArray} (h : d.insE who off text = 0) (hd : d.doE (d.insR who off text) = 0) :
    ∃ a b : List LLeaf, d.book = a ++ b ∧ ((textL a).length : Int) = off ∧ (d.doR (d.insR who off text)).book = a ++ (d.insR who off text).map leafOf ++ b ∧ textL ((d.insR who off text).map leafOf) = text.toList ∧
      (d.doR (d.insR who off text)).marks = d.marks ∧ (d.doR (d.insR who off text)).joined = d.joined ∧ (d.doR (d.insR who off text)).ops = d.ops ++ d.insR who off text ∧
      (∀ x ∈ a, ∀ o ∈ d.insR who off text, lt x.place o.place = true) ∧ (∀ x ∈ b, ∀ o ∈ d.insR who off text, lt o.place x.place = true) := by
  have hk2 := doR_ok (d.insR who off text) hk
  obtain ⟨h1, h2, h3, h4⟩ := ins_ok h
  obtain ⟨i1, i2, i3, i4⟩ := insErr_zero h2
  obtain ⟨g1, g2, g3⟩ := ins_gap hk.book i3 i4
  rw [h3] at hd hk2 ⊢
  obtain ⟨r1, r2, r3, r4, r5⟩ := typed_do who _ text.toList _ _ d _ _ hk (List.take_append_drop _ _).symm g3 rfl h4 hd
  refine ⟨_, _, (List.take_append_drop (idxOf d.book off) _).symm, g2, r1, typed_letters _ _ _ _ _ i2, r2, r3, r4, ?_, ?_⟩
  · intro x hx o ho
    have hr := rising_pair.1 hk2.book.rising
    rw [r1, List.pairwise_append, List.pairwise_append] at hr
    exact hr.1.2.2 x hx (leafOf o) (List.mem_map.2 ⟨o, ho, rfl⟩)
  · intro x hx o ho
    have hr := rising_pair.1 hk2.book.rising
    rw [r1, List.pairwise_append] at hr
    exact hr.2.2 (leafOf o) (by simp; exact .inr ⟨o, ho, rfl⟩) x hx
end LDoc
end Go.Proofs.YtgmdnmdniidngaaGreatDoor
/- (*edit.Maker).Add and edit.NewMaker, walked. Conditions: the document is right; the maker's number is small. -/
namespace Go.Proofs.YtgmdnmdniidngaaGreatDoor
open Go.RowKit
set_option linter.unusedVariables false
/-- A maker in memory, with the ops that it has made. -/
structure MkIs (w : World) (B b : Nat) (m : LMk) (V : Option Addr) (c : Nat) (ys : List OpAt) : Prop where
  blk : Blk w b 125 #[.int .i64 m.who, .int .i64 m.n, .slice V ys.length c]
  ops : OwnOps w B V c ys
  same : ys.map OpAt.op = m.ops
  base : B ≤ b
/-- The maker goes on: of what was there only it and its row may have turned. -/
def MkTo (w : World) (B b : Nat) (V : Option Addr) (m' : LMk) (w' : World) : Prop :=
  ∃ V' c' ys', MkIs w' B b m' V' c' ys' ∧ Only (b :: ob V) w w' ∧ ∀ g ∈ ob V', g ∈ ob V ∨ w.heap.size ≤ g
namespace MkIs
variable {w w' : World} {B b : Nat} {m : LMk} {V : Option Addr} {c : Nat} {ys : List OpAt}
theorem only {T : List Nat} (h : MkIs w B b m V c ys) (ho : Only T w w') (hT : ∀ g ∈ T, g < B ∨ w.heap.size ≤ g) : MkIs w' B b m V c ys :=
  ⟨ho.blk h.blk (fun hm => by have := hT _ hm; have := h.base; have := h.blk.lt; omega), ops_far h.ops ho hT, h.same, h.base⟩
theorem below (h : MkIs w B b m V c ys) (hb : Below w.heap.size w w') : MkIs w' B b m V c ys := h.only (T := []) (Only.of_below hb) (by simp)
theorem len (h : MkIs w B b m V c ys) : ys.length = m.ops.length := by rw [← h.same, List.length_map]
theorem to_self (h : MkIs w B b m V c ys) : MkTo w B b V m w := ⟨V, c, ys, h, Only.refl _ _, fun g hg => .inl hg⟩
end MkIs
theorem MkTo.trans {w w1 w2 : World} {B b : Nat} {V V1 : Option Addr} {c1 : Nat} {ys1 : List OpAt} {m1 m2 : LMk} (h1 : MkIs w1 B b m1 V1 c1 ys1) (ho : Only (b :: ob V) w w1) (hn : ∀ g ∈ ob V1, g ∈ ob V ∨ w.heap.size ≤ g) (h2 : MkTo w1 B b V1 m2 w2) : MkTo w B b V m2 w2 := by
  obtain ⟨V2, c2, ys2, i2, o2, n2⟩ := h2
  refine ⟨V2, c2, ys2, i2, ho.trans_new o2 (fun i hi => ?_), fun g hg => ?_⟩
  · rcases List.mem_cons.1 hi with hi | hi
    · exact .inl (by simp [hi])
    · rcases hn i hi with h | h
      · exact .inl (by simp [h])
      · exact .inr h
  · have := ho.size
    rcases n2 g hg with h | h
    · exact hn g h
    · exact .inr (by omega)
theorem MkTo.below {w w' : World} {B b : Nat} {m m' : LMk} {V : Option Addr} {c : Nat} {ys : List OpAt} (h : MkIs w B b m V c ys) (ht : MkTo w B b V m' w') {N : Nat} (hN : N ≤ B) (hs : B ≤ w.heap.size) : Below N w w' := by
  obtain ⟨V', c', ys', _, o, _⟩ := ht
  refine o.below (by omega) (fun g hg => ?_)
  rcases List.mem_cons.1 hg with rfl | hg
  · have := h.base; omega
  · have := (h.ops.row.lt g hg).1; omega
/-- The last step of Add: the number, the dot, the row. -/
theorem add_close {w w8 : World} {B b : Nat} {m : LMk} {V : Option Addr} {c : Nat} {ys : List OpAt} (h : MkIs w B b m V c ys) (hB : B ≤ w.heap.size) {y : OpAt} {W : World} (hW : Only [b] w W) (hbk : Blk W b 125 #[.int .i64 m.who, .int .i64 (m.n + 1), .slice V ys.length c])
    (hy : Own w B 30 2 y.at_ y.op.seen.length y.cap (dcells y.op.seen)) {V2 : Option Addr} {c2 : Nat}
    (hO : Own w8 B 33 6 V2 (ys.length + 1) c2 (ocells ys ++ OpAt.cells ⟨m.put y.op, y.at_, y.cap⟩)) (hL : Only (ob V) W w8) (hg : ∀ g ∈ ob V2, g ∈ ob V ∨ g = W.heap.size) :
    MkTo w B b V (m.add y.op) (w8.setCell ⟨b, 2, none⟩ (.slice V2 (ys.length + 1) c2)) := by
  have hbV : b ∉ ob V := h.ops.row.blk_ne h.blk (by decide)
  have hb8 := hL.blk hbk hbV
  have hwW := hW.size
  have hW8 := hL.size
  have ho : Only (b :: ob V) w w8 := (hW.mono (fun i hi => by simp at hi; exact .inl (by simp [hi]))).trans (hL.mono (fun i hi => .inl (by simp [hi])))
  have ho2 : Only (b :: ob V) w (w8.setCell ⟨b, 2, none⟩ (.slice V2 (ys.length + 1) c2)) := ho.setCell (.inl (by simp)) _
  have hset : Only [b] w8 (w8.setCell ⟨b, 2, none⟩ (.slice V2 (ys.length + 1) c2)) := (Only.refl _ _).setCell (.inl (by simp)) _
  have keep : ∀ {A : Option Addr} {n cc : Nat} {xs : List Value}, Own w B 30 2 A n cc xs → Own (w8.setCell ⟨b, 2, none⟩ (.slice V2 (ys.length + 1) c2)) B 30 2 A n cc xs := fun hA => hA.only ho2 (fun g hg hm => by
    rcases List.mem_cons.1 hm with rfl | hm
    · exact hA.blk_ne h.blk (by decide) hg
    · rcases h.ops.row.2 with ⟨h2, _⟩ | ⟨g', cap, cur, he, _, hh, _⟩
      · injection h2 with h2
        rw [h2] at hm; simp [ob] at hm
      · injection he with he
        rw [he] at hm; simp [ob] at hm; subst hm
        exact hA.blk_ne (t := 33) (cs := cur) hh (by decide) hg)
  have hb2 : b ∉ ob V2 := hO.blk_ne hb8 (by decide)
  refine ⟨V2, c2, ys ++ [⟨m.put y.op, y.at_, y.cap⟩], ⟨?_, ⟨?_, ?_⟩, ?_, h.base⟩, ho2, fun g hg2 => ?_⟩
  · have := hb8.set_ 2 (.slice V2 (ys.length + 1) c2)
    rw [List.length_append]
    exact this
  · rw [List.length_append, ocells_app]
    have e : ocells [⟨m.put y.op, y.at_, y.cap⟩] = OpAt.cells ⟨m.put y.op, y.at_, y.cap⟩ := by simp [ocells]
    rw [e]
    exact hO.only hset (fun g hg hm => by simp at hm; subst hm; exact hb2 hg)
  · intro z hz
    rcases List.mem_append.1 hz with hz | hz
    · exact keep (h.ops.seen z hz)
    · simp at hz; subst hz; exact keep hy
  · rw [List.map_append, h.same]; rfl
  · rcases hg g hg2 with h3 | h3
    · exact .inl h3
    · exact .inr (by omega)
def MkAddPost (w : World) (B b : Nat) (V : Option Addr) (m' : LMk) (e : Ending) (w' : World) : Prop := e = .returned (.tuple #[]) ∧ MkTo w B b V m' w'
set_option maxRecDepth 100000 in
set_option maxHeartbeats 40000000 in
theorem mkAdd_any (w : World) (B b : Nat) (m : LMk) (V : Option Addr) (c : Nat) (ys : List OpAt) (h : MkIs w B b m V c ys) (hB : B ≤ w.heap.size) (o : LOp) (A : Option Addr) (ca : Nat)
    (hy : Own w B 30 2 A o.seen.length ca (dcells o.seen)) (hn0 : -1000000 ≤ m.n) (hn : m.n ≤ 1000000) (hl : ys.length ≤ 100000) :
    Calls Tryz.prog 72 #[.pointer (some ⟨b, 0, none⟩), o.val A ca] w (MkAddPost w B b V (m.add o)) := by
  have HH := Lib.hid h
  have HY := Lib.hid hy
  have hbl := h.blk.lt
  obtain ⟨⟨who, n⟩, what, p, letter, seen⟩ := o
  obtain ⟨mw, mn, mo⟩ := m
  unfold LOp.val
  simp only at hn0 hn HY
  have HBox := Lib.hid (Blk.new w 33 #[.int .i64 who, .int .i64 n, .int .i64 what, .string p, .int .i64 letter, .slice A seen.length ca])
  have HB0 : Hid (Blk (w.alloc (.cells #[.int .i64 who, .int .i64 n, .int .i64 what, .string p, .int .i64 letter, .slice A seen.length ca] 33)) b 125 #[.int .i64 mw, .int .i64 mn, .slice V ys.length c]) := h.blk.alloc _
  have c1 : (w.alloc (.cells #[.int .i64 who, .int .i64 n, .int .i64 what, .string p, .int .i64 letter, .slice A seen.length ca] 33)).cell? ⟨b, 1, none⟩ = some (.int .i64 mn) := by rw [HB0.out.cell]; rfl
  have f1 := HB0.out.frozen 1
  have q1 : IntKind.i64.wrap (mn + 1) = mn + 1 := IntWalk.i64_in _ (by omega)
  clear h hy
  go_enter Tryz.func72, Tryz.ntmps72
  go_upto_region 2 with fail
  have HBm : Hid (Blk (w.setCell ⟨b, 1, none⟩ (.int .i64 (mn + 1))) b 125 #[.int .i64 mw, .int .i64 (mn + 1), .slice V ys.length c]) := HH.out.blk.set_ 1 _
  have HW1 : Hid (Only [b] w (w.setCell ⟨b, 1, none⟩ (.int .i64 (mn + 1)))) := (Only.refl _ _).setCell (.inl (by simp)) _
  have hsz : (w.setCell ⟨b, 1, none⟩ (.int .i64 (mn + 1))).heap.size = w.heap.size := by simp [World.setCell]
  have HSZ := Lib.hid hsz
  obtain ⟨w1, hw1⟩ : ∃ w1, w1 = w.setCell ⟨b, 1, none⟩ (.int .i64 (mn + 1)) := ⟨_, rfl⟩
  rw [← hw1] at HBm HW1 HSZ ⊢
  clear hw1 hsz HBox HB0 c1 f1
  have k0 : (w1.alloc (.cells #[.int .i64 who, .int .i64 n, .int .i64 what, .string p, .int .i64 letter, .slice A seen.length ca] 33)).cell? ⟨b, 0, none⟩ = some (.int .i64 mw) := by rw [(HBm.out.alloc _).cell]; rfl
  have k1 : (w1.alloc (.cells #[.int .i64 who, .int .i64 n, .int .i64 what, .string p, .int .i64 letter, .slice A seen.length ca] 33)).cell? ⟨b, 1, none⟩ = some (.int .i64 (mn + 1)) := by rw [(HBm.out.alloc _).cell]; rfl
  rw [← HSZ.out]
  go_cut [] (fun wx => ∃ n, wx = (w1.alloc (.cells #[.int .i64 mw, .int .i64 (mn + 1), .int .i64 what, .string p, .int .i64 letter, .slice A seen.length ca] 33)).drewN n)
  case first =>
    go_region
    all_goals
      go_wp2_with fail
      go_meet
      case rel => exact ⟨1, rfl⟩
  case rest =>
    obtain ⟨n2, rfl⟩ := hcut
    obtain ⟨W2, hW2⟩ : ∃ W2, W2 = (w1.alloc (.cells #[.int .i64 mw, .int .i64 (mn + 1), .int .i64 what, .string p, .int .i64 letter, .slice A seen.length ca] 33)).drewN n2 := ⟨_, rfl⟩
    have HO2 : Hid (Only [b] w W2) := by show Only _ _ _; rw [hW2]; exact (HW1.out.alloc _).drewN _
    have HM2 : Hid (Blk W2 b 125 #[.int .i64 mw, .int .i64 (mn + 1), .slice V ys.length c]) := by show Blk _ _ _ _; rw [hW2]; exact (HBm.out.alloc _).drewN _
    have HX2 : Hid (Blk W2 w1.heap.size 33 #[.int .i64 mw, .int .i64 (mn + 1), .int .i64 what, .string p, .int .i64 letter, .slice A seen.length ca]) := by show Blk _ _ _ _; rw [hW2]; exact (Blk.new w1 _ _).drewN _
    rw [← hW2]
    clear hW2 k0 k1 HBm HW1
    have j0 : W2.cell? ⟨w1.heap.size, 0, none⟩ = some (.int .i64 mw) := by rw [HX2.out.cell]; rfl
    have j1 : W2.cell? ⟨w1.heap.size, 1, none⟩ = some (.int .i64 (mn + 1)) := by rw [HX2.out.cell]; rfl
    have j2 : W2.cell? ⟨w1.heap.size, 2, none⟩ = some (.int .i64 what) := by rw [HX2.out.cell]; rfl
    have j3 : W2.cell? ⟨w1.heap.size, 3, none⟩ = some (.string p) := by rw [HX2.out.cell]; rfl
    have j4 : W2.cell? ⟨w1.heap.size, 4, none⟩ = some (.int .i64 letter) := by rw [HX2.out.cell]; rfl
    have j5 : W2.cell? ⟨w1.heap.size, 5, none⟩ = some (.slice A seen.length ca) := by rw [HX2.out.cell]; rfl
    have m2 : W2.cell? ⟨b, 2, none⟩ = some (.slice V ys.length c) := by rw [HM2.out.cell]; rfl
    have m2a : (W2.alloc (.cells #[.int .i64 mw, .int .i64 (mn + 1), .int .i64 what, .string p, .int .i64 letter, .slice A seen.length ca] 33)).cell? ⟨b, 2, none⟩ = some (.slice V ys.length c) := by rw [(HM2.out.alloc _).cell]; rfl
    have hBW : B ≤ W2.heap.size := by have := HO2.out.size; omega
    have HRW : Hid (Own W2 B 33 6 V ys.length c (ocells ys)) := HH.out.ops.row.only HO2.out (fun g hg hm => by simp at hm; subst hm; exact HH.out.ops.row.blk_ne HH.out.blk (by decide) hg)
    have hbV : b ∉ ob V := HH.out.ops.row.blk_ne HH.out.blk (by decide)
    have HONE : Hid (OneCells [Value.int .i64 mw, .int .i64 (mn + 1), .int .i64 what, .string p, .int .i64 letter, .slice A seen.length ca]) := by
      show OneCells _
      intro u hu
      simp only [List.mem_cons, List.not_mem_nil, or_false] at hu
      rcases hu with rfl | rfl | rfl | rfl | rfl | rfl <;> rfl
    have HFIT : Hid (Fits (ys.length + 1) 72) := Fits.of_small (by omega) (by decide)
    go_wp2_with fail
    go_region_law ((
      refine step_app _ (.tmp 25) (.tmp 27) rfl rfl elemO_ rfl rfl ((HRW.out.drew).alloc _) (Reads.row W2.drew 33 #[.int .i64 mw, .int .i64 (mn + 1), .int .i64 what, .string p, .int .i64 letter, .slice A seen.length ca]) HONE.out HFIT.out (by simp; omega) ?_
      intro V8 cV w8 hO hL hg
      have hb8 := hL.blk ((HM2.out.drew).alloc _) hbV
      have n2 : w8.cell? ⟨b, 2, none⟩ = some (.slice V ys.length c) := by { rw [hb8.cell]; rfl }
      have f2 := hb8.frozen 2))
    all_goals
      go_wp2_with fail
      go_end0
      exact ⟨rfl, add_close (y := ⟨⟨⟨who, n⟩, what, p, letter, seen⟩, A, ca⟩) HH.out hB (HO2.out.drew.alloc _) (HM2.out.drew.alloc _) HY.out hO hL hg⟩
/-- A maker that is new, or none. -/
def NewMkPost (w : World) (d : LDoc) (who : Int) (e : Ending) (w' : World) : Prop :=
  (LDoc.whoE who = 0 ∧ ∃ b, e = .returned (.tuple #[.pointer (some ⟨b, 0, none⟩), .nilIface]) ∧ MkIs w' w.heap.size b (d.maker who) none 0 [] ∧ Below w.heap.size w w') ∨
  (LDoc.whoE who ≠ 0 ∧ e = .returned (.tuple #[.pointer none, errV 1]) ∧ Below w.heap.size w w')
theorem nOf_known {l : List Int} (h : vecErr l = 0) {who : Int} (hw : LDoc.whoE who = 0) : ∃ (k : Nat) (hk : k < l.length), who = (k : Int) + 1 ∧ l[k] = nOf l ⟨who, 0⟩ ∧ 0 ≤ l[k] ∧ l[k] ≤ 9999 := by
  obtain ⟨h1, h2⟩ := vec_ok h
  unfold LDoc.whoE at hw
  split at hw
  · omega
  obtain ⟨k, rfl⟩ : ∃ k : Nat, who = (k : Int) + 1 := ⟨(who - 1).toNat, by omega⟩
  have hk : k < l.length := by omega
  refine ⟨k, hk, rfl, ?_, h2 _ (List.getElem_mem hk)⟩
  unfold nOf
  rw [show ((k : Int) + 1 - 1).toNat = k by omega]
  simp [List.getD, hk]
set_option maxRecDepth 100000 in
set_option maxHeartbeats 4000000 in
theorem newMk_any (w : World) (B : Nat) (S : List Nat) (b : Nat) (st : LDoc) (D : DLay) (h : DocIs w B S b st D) (ok : st.Ok) (who : Int) (hw0 : -9223372036854775808 ≤ who) (hw1 : who ≤ 9223372036854775807) :
    Calls Tryz.prog 62 #[.pointer (some ⟨b, 0, none⟩), .int .i64 who] w (NewMkPost w st who) := by
  have HA := Lib.hid (fun W => author_any W who)
  have HK := Lib.hid (known_doc w B S b st D h ok)
  have hE := errV_ne (show (1 : Int) ≠ 0 by decide)
  by_cases hw : LDoc.whoE who = 0
  · obtain ⟨k, hk, hwk, hnk, hn0, hn1⟩ := nOf_known ok.known hw
    have HL := Lib.hid (vec_ok ok.known).1
    have HW := Lib.hid hw
    have a1 : (decide (1 ≤ who) && decide (who ≤ 8)) = true := by
      unfold LDoc.whoE at hw
      split at hw
      · omega
      · simp; omega
    have HNK := Lib.hid hnk
    have HKK := Lib.hid hk
    have hk8 : k < 8 := by have := HL.out; omega
    rw [a1] at HA
    subst hwk
    have q1 : IntKind.i64.wrap ((k : Int) + 1 - 1) = (k : Int) := by rw [IntWalk.i64_in _ (by omega)]; omega
    have HR : Hid (∀ W V c, Own W w.heap.size 3 1 V st.known.length c (ints st.known) → ∃ ad, V = some ad ∧ W.cell? (ad.add k) = some (.int .i64 st.known[k])) := fun W V c hO => by
      obtain ⟨ad, e, _, hc⟩ := hO.reads.int HKK.out
      exact ⟨ad, e, hc⟩
    have k0 : (0 : Int) ≤ (k : Int) := by omega
    clear h ok hw hnk hE a1 hw0 hw1
    go_enter Tryz.func62, Tryz.ntmps62
    go_wp2_with fail
    refine (HA.out _).mono ?_
    rintro e w1 ⟨rfl, rfl⟩
    go_wp2_with fail
    refine HK.out.mono ?_
    rintro e w2 ⟨V, c, rfl, hO, hb⟩
    obtain ⟨ad, rfl, hc⟩ := HR.out _ _ _ hO
    have HB2 := Lib.hid hb
    have hkl : (k : Int) < (st.known.length : Int) := by have := HL.out; omega
    clear hO hb
    generalize st.known[k] = nk at *
    go_wp2_with fail
    go_ret2
    refine .inl ⟨HW.out, _, rfl, ⟨?_, ⟨Own.nil _ _ _ _, by simp⟩, rfl, HB2.out.size⟩, HB2.out.alloc HB2.out.size _⟩
    have := Blk.new w2 125 #[.int .i64 ((k : Int) + 1), .int .i64 nk, .slice none 0 0]
    rw [HNK.out] at this ⊢
    exact this
  · have a1 : (decide (1 ≤ who) && decide (who ≤ 8)) = false := by
      unfold LDoc.whoE at hw
      split at hw
      · simp; omega
      · omega
    have HW := Lib.hid hw
    rw [a1] at HA
    clear h ok hw a1 HK
    go_enter Tryz.func62, Tryz.ntmps62
    go_wp2_with fail
    refine (HA.out _).mono ?_
    rintro e w1 ⟨rfl, rfl⟩
    go_wp2_with fail
    go_ret2
    exact .inr ⟨HW.out, by rw [hE]; rfl, Below.refl _ _⟩
set_option maxRecDepth 100000 in
theorem mkDone_any (w : World) (B b : Nat) (m : LMk) (V : Option Addr) (c : Nat) (ys : List OpAt) (h : MkIs w B b m V c ys) (k : Int) :
    Calls Tryz.prog 66 #[.pointer (some ⟨b, 0, none⟩), errV k] w fun e w' => e = .returned (.tuple #[if k = 0 then .slice V ys.length c else .slice none 0 0, errV k]) ∧ w' = w := by
  have c2 : w.cell? ⟨b, 2, none⟩ = some (.slice V ys.length c) := by rw [h.blk.cell]; rfl
  clear h
  by_cases hk : k = 0
  · subst hk
    have HE : errV 0 = .nilIface := rfl
    rw [HE, if_pos rfl]
    go_enter Tryz.func66, Tryz.ntmps66
    go_wp2_with fail
    go_ret2
    exact ⟨rfl, rfl⟩
  · rw [errV_ne hk, if_neg hk]
    go_enter Tryz.func66, Tryz.ntmps66
    go_wp2_with fail
    go_ret2
    exact ⟨rfl, rfl⟩
end Go.Proofs.YtgmdnmdniidngaaGreatDoor
/- Is a byte of a text no letter? slices.ContainsFunc over bytes, walked. Conditions: stated with each. -/
namespace Go.Proofs.YtgmdnmdniidngaaGreatDoor
open Go.RowKit
set_option linter.unusedVariables false
theorem bs_at {l : List UInt8} {k : Nat} (h : k < l.length) : (bs l)[k]? = some (.int .u8 l[k].toNat) := by simp [bs, h]
theorem Reads.byte {w : World} {B : Nat} {A : Option Addr} {l : List UInt8} (h : Reads w B 1 A l.length (bs l)) {k : Nat} (hk : k < l.length) : ∃ ad, A = some ad ∧ ad.block < B ∧ w.cell? (ad.add k) = some (.int .u8 l[k].toNat) := by
  obtain ⟨ad, e, hb, hc⟩ := h.2 (by omega)
  exact ⟨ad, e, hb, hc _ _ (bs_at hk)⟩
theorem badC_any (w : World) (c : UInt8) : Calls Tryz.prog 98 #[.int .u8 c.toNat] w fun e w' => e = .returned (.bool (badC c)) ∧ w' = w := by
  have HL := Lib.hid (letter_any w (c.toNat : Int))
  have HB : Hid (badC c = !letterB (c.toNat : Int)) := rfl
  have hc := UInt8.toNat_lt c
  generalize hn : c.toNat = n at *
  generalize letterB (n : Int) = q at *
  go_enter Tryz.func98, Tryz.ntmps98
  go_wp2_with fail
  refine HL.out.mono ?_
  rintro e w1 ⟨rfl, rfl⟩
  go_wp2_with fail
  go_ret
  exact ⟨by rw [HB.out]; rfl, rfl⟩
def FoundCPost (w : World) (l : List UInt8) (e : Ending) (w' : World) : Prop := ∃ k : Int, e = .returned (.int .i64 k) ∧ (decide (0 ≤ k) = l.any badC) ∧ -1 ≤ k ∧ k ≤ l.length ∧ w' = w
set_option maxRecDepth 100000 in
set_option maxHeartbeats 1000000 in
theorem indexC_any (w : World) (A : Option Addr) (c : Nat) (l : List UInt8) (h : Reads w w.heap.size 1 A l.length (bs l)) (hn : l.length ≤ 1048576) :
    Calls Tryz.prog 119 #[.slice A l.length c, .func (Fn.func 98) #[] #[]] w (FoundCPost w l) := by
  have HR := Lib.hid h
  have HO := Lib.hid (fun n => badC_any w n)
  clear h
  go_enter Tryz.func119, Tryz.ntmps119
  go_wp2_with fail
  go_loop [8] (fun i => ∃ k : Nat, k ≤ l.length ∧ i = .int .i64 k ∧ Hid (∀ j (hj : j < l.length), j < k → badC l[j] = false)) (fun i => l.length - (intOf i).toNat)
  case atStart => exact ⟨0, by omega, rfl, fun j _ h => by omega⟩
  case round =>
    obtain ⟨k, hk, rfl, HA⟩ := hrel
    by_cases hkn : k < l.length
    · obtain ⟨ad, rfl, hb, c0⟩ := HR.out.byte hkn
      have hlt : (k : Int) < (l.length : Int) := by omega
      have HO1 := Lib.hid (HO.out l[k])
      cases hbad : badC l[k] with
      | true =>
        have HBd := Lib.hid hbad
        rw [hbad] at HO1
        clear hbad
        go_wp2_with fail
        refine HO1.out.mono ?_
        rintro e w' ⟨rfl, rfl⟩
        go_wp2_with fail
        go_ret
        refine ⟨k, rfl, ?_, by omega, by omega, rfl⟩
        rw [List.any_eq_true.2 ⟨l[k], List.getElem_mem hkn, HBd.out⟩]
        simp
      | false =>
        have HBd := Lib.hid hbad
        rw [hbad] at HO1
        clear hbad
        go_wp2_with fail
        refine HO1.out.mono ?_
        rintro e w' ⟨rfl, rfl⟩
        go_wp2_with fail
        go_round
        case rel => exact ⟨k + 1, by omega, by go_num, fun j hj h => by
          rcases Nat.lt_or_ge j k with h1 | h1
          · exact HA.out j hj h1
          · have : j = k := by omega
            subst this
            exact HBd.out⟩
        case measure => simp [intOf]; omega
    · have hd : decide ((k : Int) < (l.length : Int)) = false := by simp; omega
      have hnone : l.any badC = false := by
        cases hh : l.any badC
        · rfl
        · obtain ⟨n, hn, hb⟩ := List.any_eq_true.1 hh
          obtain ⟨j, hj, rfl⟩ := List.getElem_of_mem hn
          rw [HA.out j hj (by omega)] at hb
          cases hb
      have HN := Lib.hid hnone
      clear hnone
      go_wp2_with fail
      go_ret
      exact ⟨-1, rfl, by rw [HN.out]; simp, by omega, by omega, rfl⟩
set_option maxRecDepth 100000 in
theorem someC_any (w : World) (A : Option Addr) (c : Nat) (l : List UInt8) (h : Reads w w.heap.size 1 A l.length (bs l)) (hn : l.length ≤ 1048576) :
    Calls Tryz.prog 97 #[.slice A l.length c, .func (Fn.func 98) #[] #[]] w fun e w' => e = .returned (.bool (l.any badC)) ∧ w' = w := by
  have HI := Lib.hid (indexC_any w A c l h hn)
  clear h
  go_enter Tryz.func97, Tryz.ntmps97
  go_wp2_with fail
  refine HI.out.mono ?_
  rintro e w' ⟨k, rfl, hk, h1, h2, rfl⟩
  have HK := Lib.hid hk
  clear hk
  go_wp2_with fail
  go_ret
  exact ⟨by rw [← HK.out]; rfl, rfl⟩
/-- A text turned into bytes reads as it is. -/
theorem conv_reads (w : World) (s : ByteArray) : ∃ C cs fr, (convert 9 100 (.string s)).run Tryz.prog w = .ok (.slice (some ⟨w.heap.size, 0, none⟩) s.size C) (w.drew.alloc (.cells cs 5 fr)) ∧
    Reads (w.drew.alloc (.cells cs 5 fr)) (w.drew.alloc (.cells cs 5 fr)).heap.size 1 (some ⟨w.heap.size, 0, none⟩) s.size (bs s.toList) := by
  obtain ⟨C, cs, fr, h1, h2⟩ := conv_bytes w s
  refine ⟨C, cs, fr, h1, by rw [bs_len, toList_len]; omega, fun hn => ⟨_, rfl, by simp, fun j u hu => ?_⟩⟩
  by_cases hj : j < s.size
  · have h3 := h2 j hj
    have e1 : (⟨w.heap.size, 0, none⟩ : Addr).add j = ⟨w.heap.size, j, none⟩ := by
      unfold Addr.add
      by_cases hj : j = 0 <;> simp [hj]
    have hu2 := bs_at (l := s.toList) (k := j) (by rw [toList_len]; exact hj)
    rw [hu2] at hu
    obtain rfl := Option.some.inj hu
    rw [e1]
    refine (show (w.drew.alloc (.cells cs 5 fr)).cell? ⟨w.heap.size, j, none⟩ = (w.alloc (.cells cs 5 fr)).cell? ⟨w.heap.size, j, none⟩ from World.cell?_of_block ((heap_alloc_new w.drew _).trans (heap_alloc_new w _).symm)).trans (h3.trans ?_)
    rw [byteAt_in hj]
    have e2 : s.toList[j]'(by rw [toList_len]; exact hj) = s[j] := by simp [ByteArray.toList_eq]; rfl
    rw [e2]
  · rw [List.getElem?_eq_none (by rw [bs_len, toList_len]; omega)] at hu
    cases hu
end Go.Proofs.YtgmdnmdniidngaaGreatDoor
/- (*edit.Maker).Insert, walked. Conditions: the book is right; the maker's number is small. -/
namespace Go.Proofs.YtgmdnmdniidngaaGreatDoor
open Go.RowKit
set_option linter.unusedVariables false
/-- Midway: k letters are typed. -/
structure InsMid (w : World) (B b : Nat) (V : Option Addr) (m : LMk) (right left : ByteArray) (t : List UInt8) (k : Nat) (wr : World) (lk : ByteArray) (mk : LMk) (V' : Option Addr) (c' : Nat) (ys' : List OpAt) : Prop where
  mkis : MkIs wr B b mk V' c' ys'
  only : Only (b :: ob V) w wr
  new : ∀ g ∈ ob V', g ∈ ob V ∨ w.heap.size ≤ g
  rest : LMk.typed right t left m = LMk.typed right (t.drop k) lk mk
  who : mk.who = m.who
  n : mk.n = m.n + k
  len : ys'.length = m.ops.length + k
  small : lk.size ≤ 9223372036854775807
def InsLoop (w : World) (B b : Nat) (V : Option Addr) (m : LMk) (right left : ByteArray) (t : List UInt8) (l i : Value) (wr : World) : Prop :=
  ∃ k : Nat, ∃ lk mk V' c' ys', k ≤ t.length ∧ l = .string lk ∧ i = .int .i64 k ∧ Hid (InsMid w B b V m right left t k wr lk mk V' c' ys')
namespace InsMid
variable {w wr w' : World} {B b : Nat} {V V' : Option Addr} {m mk : LMk} {right left lk : ByteArray} {t : List UInt8} {k c' : Nat} {ys' : List OpAt}
theorem stop (h : InsMid w B b V m right left t k wr lk mk V' c' ys') (hk : k < t.length) (he : betweenErr lk right mk.who ≠ 0) (hb : Below wr.heap.size wr w') :
    (LMk.typed right t left m).2 = betweenErr lk right mk.who ∧ MkTo w B b V (LMk.typed right t left m).1 w' := by
  rw [h.rest, List.drop_eq_getElem_cons hk, LMk.typed, if_pos he]
  exact ⟨rfl, V', c', ys', h.mkis.below hb, h.only.below_step hb, h.new⟩
theorem fin (h : InsMid w B b V m right left t k wr lk mk V' c' ys') (hk : t.length ≤ k) : (LMk.typed right t left m).2 = 0 ∧ MkTo w B b V (LMk.typed right t left m).1 wr := by
  rw [h.rest, List.drop_eq_nil_of_le hk, LMk.typed]
  exact ⟨rfl, V', c', ys', h.mkis, h.only, h.new⟩
theorem next (h : InsMid w B b V m right left t k wr lk mk V' c' ys') (hk : k < t.length) (he : ¬ betweenErr lk right mk.who ≠ 0) {w1 : World} (hb : Below wr.heap.size wr w1) (ht : MkTo w1 B b V' (mk.wr (strOf (betweenRes lk right mk.who)) t[k].toNat) w') :
    ∃ V2 c2 ys2, InsMid w B b V m right left t (k + 1) w' (strOf (betweenRes lk right mk.who)) (mk.wr (strOf (betweenRes lk right mk.who)) t[k].toNat) V2 c2 ys2 := by
  have hsz := h.only.size
  have hsz1 := hb.size
  obtain ⟨V2, c2, ys2, i2, o2, n2⟩ := MkTo.trans (h.mkis.below hb) (h.only.below_step hb) h.new ht
  refine ⟨V2, c2, ys2, i2, o2, n2, ?_, ?_, ?_, ?_, ?_⟩
  · rw [h.rest, List.drop_eq_getElem_cons hk, LMk.typed, if_neg he]; rfl
  · exact h.who
  · show mk.n + 1 = _
    rw [h.n]; omega
  · have e1 := i2.len
    have e2 := h.mkis.len
    rw [h.len] at e2
    rw [e1]
    simp [LMk.wr, LMk.add]
    omega
  · rw [strOf_size]
    unfold betweenRes
    split
    · have := quarter_le lk right
      simp; omega
    · simp
end InsMid
def MkPost (w : World) (B b : Nat) (V : Option Addr) (r : LMk × Int) (e : Ending) (w' : World) : Prop := e = .returned (errV r.2) ∧ MkTo w B b V r.1 w'
theorem nth_leaf {l : List LLeaf} {off : Int} (h0 : 0 < off) (h1 : off ≤ ((textOf l).size : Int)) : ∃ n, ∃ hn : n < l.length, nthFrom 0 l (off - 1) = (n : Int) ∧ idxOf l off = n + 1 ∧ leftOf l off = l[n].place := by
  have hsz : (textOf l).size = (textL l).length := strOf_size _
  obtain ⟨o, rfl⟩ : ∃ o : Nat, off = (o : Int) + 1 := ⟨(off - 1).toNat, by omega⟩
  obtain ⟨n, hn, e1, e2, e3⟩ := nth_seen l 0 o (by omega)
  have e0 : (o : Int) + 1 - 1 = (o : Int) := by omega
  have en : (nthFrom 0 l ((o : Int) + 1 - 1)).toNat = n := by rw [e0, e1]; omega
  refine ⟨n, hn, by rw [e0, e1]; omega, ?_, ?_⟩
  · unfold idxOf; rw [if_pos h0, en]
  · unfold leftOf; rw [if_pos h0, en]; simp [List.getD, hn]
set_option maxRecDepth 100000 in
set_option maxHeartbeats 8000000 in
theorem mkIns_any (w : World) (B b : Nat) (m : LMk) (V : Option Addr) (c : Nat) (ys : List OpAt) (h : MkIs w B b m V c ys) (hB : B ≤ w.heap.size) (A : Option Addr) (cl : Nat) (l : List LLeaf) (hr : Reads w w.heap.size 3 A l.length (lcells l)) (hb : BookOk l)
    (off : Int) (ho : off ≤ 9223372036854775807) (text : ByteArray) (ht : text.size ≤ 9223372036854775807) (hn0 : 0 ≤ m.n) (hn : m.n ≤ 900000) (hl : m.ops.length ≤ 90000) :
    Calls Tryz.prog 67 #[.pointer (some ⟨b, 0, none⟩), .slice A l.length cl, .int .i64 off, .string text] w (MkPost w B b V (m.ins l off text)) := by
  have HH := Lib.hid h
  have HR := Lib.hid hr
  have HBO := Lib.hid hb
  have hll := hb.few
  have HP := Lib.hid (h.to_self)
  have HE4 := errV_ne (show (4 : Int) ≠ 0 by decide)
  have HE1 := errV_ne (show (1 : Int) ≠ 0 by decide)
  by_cases h4 : 200 < text.size
  · have HF : Hid (m.ins l off text = (m, 4)) := by
      show _ = _
      have e : insErr l off text = 4 := if_pos h4
      unfold LMk.ins; rw [if_pos (by rw [e]; decide), e]
    have g4 : (200 : Int) < (text.size : Int) := by omega
    clear h hr hb h4
    go_enter Tryz.func67, Tryz.ntmps67
    go_wp2_with fail
    go_ret
    exact ⟨by rw [HF.out, HE4]; rfl, by rw [HF.out]; exact HP.out⟩
  have g4 : ¬ (200 : Int) < (text.size : Int) := by omega
  obtain ⟨C, cs, fr, hcv, hrd⟩ := conv_reads w text
  have HB1 : Hid (Below w.heap.size w (w.drew.alloc (.cells cs 5 fr))) := (Below.refl _ _).drew.alloc (Nat.le_refl _) _
  have HS : Hid (Calls _ _ _ _ _) := someC_any _ _ C text.toList (by rw [toList_len]; exact hrd) (by rw [toList_len]; omega)
  rw [toList_len] at HS
  cases hbad : text.toList.any badC with
  | true =>
    have HF : Hid (m.ins l off text = (m, 1)) := by
      show _ = _
      have e : insErr l off text = 1 := by unfold insErr; rw [if_neg h4, if_pos hbad]
      unfold LMk.ins; rw [if_pos (by rw [e]; decide), e]
    rw [hbad] at HS
    clear h hr hb h4 hbad hrd
    go_enter Tryz.func67, Tryz.ntmps67
    go_wp2_with fail
    refine HS.out.mono ?_
    rintro e w1 ⟨rfl, rfl⟩
    go_wp2_with fail
    go_ret
    exact ⟨by rw [HF.out, HE1]; rfl, by rw [HF.out]; exact ⟨_, _, _, HH.out.below HB1.out, Only.of_below HB1.out, fun g hg => .inl hg⟩⟩
  | false =>
    rw [hbad] at HS
    have HFIT := Lib.hid (fit_ok hb)
    generalize w.drew.alloc (.cells cs 5 fr) = W1 at *
    have HTX : Hid (Calls _ _ _ _ _) := textOf_any W1 A cl l ((hr.below HB1.out).more HB1.out.size) HFIT.out (by omega)
    by_cases hoff : off < 0 ∨ ((textOf l).size : Int) < off
    · have HF : Hid (m.ins l off text = (m, 1)) := by
        show _ = _
        have e : insErr l off text = 1 := by unfold insErr; rw [if_neg h4, if_neg (by rw [hbad]; decide), if_pos hoff]
        unfold LMk.ins; rw [if_pos (by rw [e]; decide), e]
      have HOK : Hid (∀ W, Below w.heap.size w W → MkTo w B b V m W) := fun W hW => ⟨_, _, _, HH.out.below hW, Only.of_below hW, fun g hg => .inl hg⟩
      clear h hr hb h4 hbad hrd
      by_cases ho0 : off < 0
      · clear hoff
        go_enter Tryz.func67, Tryz.ntmps67
        go_wp2_with fail
        refine HS.out.mono ?_
        rintro e w1 ⟨rfl, rfl⟩
        go_wp2_with fail
        go_ret
        exact ⟨by rw [HF.out, HE1]; rfl, by rw [HF.out]; exact HOK.out _ HB1.out⟩
      · have ho1 : ((textOf l).size : Int) < off := by omega
        clear hoff
        generalize textOf l = tx at *
        go_enter Tryz.func67, Tryz.ntmps67
        go_wp2_with fail
        refine HS.out.mono ?_
        rintro e w1 ⟨rfl, rfl⟩
        go_wp2_with fail
        refine HTX.out.mono ?_
        rintro e w2 ⟨rfl, hb2⟩
        have HB2 := Lib.hid (HB1.out.trans (hb2.mono HB1.out.size))
        clear hb2
        go_wp2_with fail
        go_ret
        exact ⟨by rw [HF.out, HE1]; rfl, by rw [HF.out]; exact HOK.out _ HB2.out⟩
    · have ho0 : ¬ off < 0 := by omega
      have ho1 : ¬ ((textOf l).size : Int) < off := by omega
      have HINS : Hid (m.ins l off text = LMk.typed (rightOf l (idxOf l off)) text.toList (leftOf l off) m) := by
        show _ = _
        have e : insErr l off text = 0 := by unfold insErr; rw [if_neg h4, if_neg (by rw [hbad]; decide), if_neg hoff]
        unfold LMk.ins; rw [if_neg (by rw [e]; decide)]
      have HLF := Lib.hid (fun h0 : 0 < off => nth_leaf (l := l) h0 (by omega))
      have HIX := Lib.hid (ins_gap HBO.out (by omega) (by omega : off ≤ ((textOf l).size : Int))).1
      have HNTH := Lib.hid (fun W (hW : Below w.heap.size w W) (h0 : 0 < off) => nth_any W A cl l (off - 1) ((HR.out.below hW).more hW.size) (by omega) (by omega) (by omega))
      have HCEL := Lib.hid (fun W (hW : Below w.heap.size w W) n (hn : n < l.length) => ((HR.out.below hW).leaf hn))
      clear h hr hb h4 hbad hrd hoff
      generalize textOf l = tx at *
      go_enter Tryz.func67, Tryz.ntmps67
      go_wp2_with fail
      refine HS.out.mono ?_
      rintro e w1 ⟨rfl, rfl⟩
      go_wp2_with fail
      refine HTX.out.mono ?_
      rintro e w2 ⟨rfl, hb2⟩
      have HB2 := Lib.hid (HB1.out.trans (hb2.mono HB1.out.size))
      clear hb2
      go_upto_if 38 with (fail)
      go_cut [9, 11] (fun a i wx => a = .string (leftOf l off) ∧ i = .int .i64 (idxOf l off : Int) ∧ Below w.heap.size w wx)
      case first =>
        by_cases hp : 0 < off
        · obtain ⟨n, hn, e1, e2, e3⟩ := HLF.out hp
          have HN := Lib.hid (HNTH.out w2 HB2.out hp)
          rw [e1] at HN
          have q1 : IntKind.i64.wrap (off - 1) = off - 1 := IntWalk.i64_in _ (by omega)
          have q2 : IntKind.i64.wrap ((n : Int) + 1) = (n : Int) + 1 := IntWalk.i64_in _ (by omega)
          have q3 : IntKind.i64.wrap ((n : Int) + 1 - 1) = (n : Int) := by rw [IntWalk.i64_in _ (by omega)]; omega
          have n0 : (0 : Int) ≤ (n : Int) := by omega
          have n1 : (n : Int) < (l.length : Int) := by omega
          have HE2 := Lib.hid e2
          have HE3 := Lib.hid e3
          clear e1 e2 e3
          go_wp2_with fail
          refine HN.out.mono ?_
          rintro e w3 ⟨rfl, hb3⟩
          have HB3 := Lib.hid (HB2.out.trans (hb3.mono HB2.out.size))
          obtain ⟨ad, rfl, _, c0, _, _⟩ := HCEL.out w3 HB3.out n hn
          clear hb3
          go_wp2_with fail
          go_meet
          case rel => exact ⟨by rw [HE3.out], by rw [HE2.out]; congr 1, HB3.out⟩
        · have HL0 : Hid (leftOf l off = ⟨#[]⟩) := if_neg hp
          have HI0 : Hid (idxOf l off = 0) := if_neg hp
          go_wp2_with fail
          go_meet
          case rel => exact ⟨by rw [HL0.out], by rw [HI0.out]; rfl, HB2.out⟩
      case rest =>
        obtain ⟨rfl, rfl, hbc⟩ := hcut
        obtain ⟨w3, hw3⟩ : ∃ x : World, x = wc := ⟨_, rfl⟩
        subst hw3
        have HB3 := Lib.hid hbc
        clear hbc HB2 HTX HS HNTH HLF
        have HLS : Hid ((leftOf l off).size ≤ 9223372036854775807) := by
          show _ ≤ _
          unfold leftOf
          split
          · rw [List.getD]
            rcases Nat.lt_or_ge ((nthFrom 0 l (off - 1)).toNat) l.length with h | h
            · rw [List.getElem?_eq_getElem h]
              have := place_small ((HBO.out.leafs _ (List.getElem_mem h)).place)
              simp; omega
            · rw [List.getElem?_eq_none h]; exact Nat.zero_le _
          · exact Nat.zero_le _
        have HRS : Hid ((rightOf l (idxOf l off)).size ≤ 9223372036854775807) := by
          show _ ≤ _
          unfold rightOf
          split
          · rename_i h
            rw [List.getD, List.getElem?_eq_getElem h]
            have := place_small ((HBO.out.leafs _ (List.getElem_mem h)).place)
            simp; omega
          · exact Nat.zero_le _
        have HRO : Hid (∀ (h : idxOf l off < l.length), rightOf l (idxOf l off) = l[idxOf l off].place) := fun h => by unfold rightOf; rw [if_pos h]; simp [List.getD, h]
        have HRN : Hid (¬ idxOf l off < l.length → rightOf l (idxOf l off) = ⟨#[]⟩) := fun h => by unfold rightOf; rw [if_neg h]
        generalize hright : rightOf l (idxOf l off) = right at *
        generalize leftOf l off = left at *
        generalize idxOf l off = i at *
        clear hright
        go_upto_if 53 with (fail)
        go_cut [10] (fun a wx => a = .string right ∧ wx = w3)
        case first =>
          by_cases hi : i < l.length
          · have i0 : (0 : Int) ≤ (i : Int) := by omega
            have i1 : (i : Int) < (l.length : Int) := by omega
            have HRO' := Lib.hid (HRO.out hi)
            obtain ⟨ad, rfl, _, c0, _, _⟩ := HCEL.out w3 HB3.out i hi
            go_wp2_with fail
            go_meet
            case rel => exact ⟨by rw [HRO'.out], rfl⟩
          · have i1 : ¬ (i : Int) < (l.length : Int) := by omega
            have HRN' := Lib.hid (HRN.out hi)
            go_wp2_with fail
            go_meet
            case rel => exact ⟨by rw [HRN'.out], rfl⟩
        case rest =>
          obtain ⟨rfl, hwc⟩ := hcut
          rw [hwc]
          clear hwc HRO HRN HCEL
          obtain ⟨C2, cs2, fr2, hcv2, hrd2⟩ := conv_reads w3 text
          have HB4 : Hid (Below w3.heap.size w3 (w3.drew.alloc (.cells cs2 5 fr2))) := (Below.refl _ _).drew.alloc (Nat.le_refl _) _
          generalize w3.drew.alloc (.cells cs2 5 fr2) = w4 at *
          have HRD := Lib.hid hrd2
          have hw34 : w.heap.size ≤ w3.heap.size := HB3.out.size
          have HM4 := Lib.hid ((HH.out.below HB3.out).below HB4.out)
          have hbl := HH.out.blk.lt
          have HG : Hid (∀ g ∈ b :: ob V, g < w.heap.size) := fun g hg => by
            rcases List.mem_cons.1 hg with rfl | hg
            · exact hbl
            · exact (HH.out.ops.row.lt g hg).2
          have HFIN : Hid (∀ m' w', MkTo w4 B b V m' w' → MkTo w B b V m' w') := fun m' w' hh => by
            obtain ⟨V', c', ys', i1, i2, i3⟩ := hh
            have hb4 := HB3.out.trans (HB4.out.mono HB3.out.size)
            exact ⟨V', c', ys', i1, (Only.of_below hb4).trans i2, fun g hg => by
              have := hb4.size
              rcases i3 g hg with h | h
              · exact .inl h
              · exact .inr (by omega)⟩
          have h44 : B ≤ w4.heap.size := by have := HB4.out.size; omega
          clear hrd2 HB4 HR
          go_wp2_with fail
          go_loopw [9, 62] (fun a i wr => InsLoop w4 B b V m right left text.toList a i wr) (fun _ i _ => text.size - (intOf i).toNat)
          case atStart => exact ⟨0, left, m, V, c, ys, Nat.zero_le _, rfl, rfl, HM4.out, Only.refl _ _, fun g hg => .inl hg, rfl, rfl, by simp, HM4.out.len, HLS.out⟩
          case round =>
            obtain ⟨k, lk, mk, V', c', ys', hk, rfl, rfl, HM⟩ := hrel
            rw [toList_len] at hk
            have k0 : (0 : Int) ≤ (k : Int) := by omega
            by_cases hlt : k < text.size
            · have k1 : (k : Int) < (text.size : Int) := by omega
              have hkl : k < text.toList.length := by rw [toList_len]; exact hlt
              have hrr : Reads wr wr.heap.size 1 (some ⟨w3.heap.size, 0, none⟩) text.toList.length (bs text.toList) := by
                rw [toList_len]
                exact Reads.only HRD.out HM.out.only (fun _ g hg hm => by simp [ob] at hg; subst hg; have := HG.out _ hm; omega)
              obtain ⟨ad, hA, _, c0⟩ := hrr.byte hkl
              have c1 : wr.cell? ⟨w3.heap.size, k, none⟩ = some (.int .u8 text.toList[k].toNat) := by
                obtain rfl := Option.some.inj hA
                have e1 : (⟨w3.heap.size, 0, none⟩ : Addr).add k = ⟨w3.heap.size, k, none⟩ := by
                  unfold Addr.add
                  by_cases hj : k = 0 <;> simp [hj]
                rw [e1] at c0; exact c0
              have a0 : wr.cell? ⟨b, 0, none⟩ = some (.int .i64 mk.who) := by rw [HM.out.mkis.blk.cell]; rfl
              have HBT : Hid (Calls Tryz.prog 100 #[.string lk, .string right, .int .i64 mk.who] wr fun e w' => e = .returned (.tuple #[.string (strOf (betweenRes lk right mk.who)), errV (betweenErr lk right mk.who)]) ∧ Below wr.heap.size wr w') := between_any wr lk right mk.who HM.out.small HRS.out
              have HNX := Lib.hid (fun he w1 hb1 w' ht => HM.out.next (w1 := w1) (w' := w') hkl he hb1 ht)
              have HST := Lib.hid (fun he w' hb1 => HM.out.stop (w' := w') hkl he hb1)
              have hch := UInt8.toNat_lt text.toList[k]
              have HAD := Lib.hid (fun W (hW : Below wr.heap.size wr W) o hs => mkAdd_any W B b mk V' c' ys' (HM.out.mkis.below hW) (by have := HM.out.only.size; have := hW.size; omega) o none 0 hs
                (by have := HM.out.n; omega) (by have := HM.out.n; omega) (by have := HM.out.len; omega))
              clear hrr hA c0
              generalize text.toList[k] = ch at *
              generalize hmw : mk.who = who at *
              by_cases he : betweenErr lk right who ≠ 0
              · have HST := Lib.hid (HST.out he)
                have HV := Lib.hid (errV_ne he)
                clear he HNX HAD
                generalize betweenErr lk right who = ke at *
                go_wp2_with fail
                refine HBT.out.mono ?_
                rintro e w5 ⟨rfl, hb5⟩
                rw [HV.out]
                obtain ⟨s1, s2⟩ := HST.out _ hb5
                have HS1 := Lib.hid s1
                have HS2 := Lib.hid s2
                clear s1 s2 hb5
                go_wp2_with fail
                go_ret
                exact ⟨by rw [HINS.out, HS1.out, HV.out]; rfl, by rw [HINS.out]; exact HFIN.out _ _ HS2.out⟩
              · have he0 : betweenErr lk right who = 0 := by omega
                have HNX := Lib.hid (HNX.out he)
                have HE0 : errV 0 = .nilIface := rfl
                rw [he0] at HBT
                clear he he0 HST
                generalize strOf (betweenRes lk right who) = p at *
                go_wp2_with fail
                refine HBT.out.mono ?_
                rintro e w5 ⟨rfl, hb5⟩
                rw [HE0]
                have HAW := Lib.hid (HAD.out w5 hb5 ⟨⟨0, 0⟩, 1, p, ch.toNat, []⟩ (Own.nil _ _ _ _))
                have HNY := Lib.hid (HNX.out w5 hb5)
                clear hb5 HNX HAD HBT
                unfold LOp.val at HAW
                go_wp2_with fail
                refine HAW.out.mono ?_
                rintro e w6 ⟨rfl, ht⟩
                have HF := Lib.hid (HNY.out _ ht)
                clear ht
                go_wp2_with fail
                go_roundw
                case rel =>
                  obtain ⟨V2, c2, ys2, hfin⟩ := HF.out
                  exact ⟨k + 1, p, _, V2, c2, ys2, by rw [toList_len]; omega, rfl, by go_num, hfin⟩
                case measure => simp [intOf]; omega
            · have k1 : ¬ (k : Int) < (text.size : Int) := by omega
              obtain ⟨s1, s2⟩ := HM.out.fin (by rw [toList_len]; omega)
              have HS1 := Lib.hid s1
              have HS2 := Lib.hid s2
              clear s1 s2
              go_wp2_with fail
              go_ret
              exact ⟨by rw [HINS.out, HS1.out]; rfl, by rw [HINS.out]; exact HFIN.out _ _ HS2.out⟩
end Go.Proofs.YtgmdnmdniidngaaGreatDoor
/- edit.Insert, walked. Conditions: the document is right; the numbers are of 64 bits. -/
namespace Go.Proofs.YtgmdnmdniidngaaGreatDoor
open Go.RowKit
set_option linter.unusedVariables false
/-- Ops, of the call's own, and an error. -/
def EditPost (w : World) (k : Int) (l : List LOp) (e : Ending) (w' : World) : Prop :=
  ∃ V c ys, e = .returned (.tuple #[.slice V ys.length c, errV k]) ∧ ys.map OpAt.op = l ∧ OwnOps w' w.heap.size V c ys ∧ Below w.heap.size w w'
theorem edit_bad {w w' : World} {k : Int} (hb : Below w.heap.size w w') : EditPost w k [] (.returned (.tuple #[.slice none 0 0, errV k])) w' := ⟨none, 0, [], rfl, rfl, ⟨Own.nil _ _ _ _, by simp⟩, hb⟩
set_option maxRecDepth 100000 in
set_option maxHeartbeats 4000000 in
theorem insert_any (w : World) (B : Nat) (S : List Nat) (b : Nat) (st : LDoc) (D : DLay) (h : DocIs w B S b st D) (ok : st.Ok) (who off : Int) (text : ByteArray) (hw0 : -9223372036854775808 ≤ who) (hw1 : who ≤ 9223372036854775807) (ho : off ≤ 9223372036854775807) (ht : text.size ≤ 9223372036854775807) :
    Calls Tryz.prog 28 #[.pointer (some ⟨b, 0, none⟩), .int .i64 who, .int .i64 off, .string text] w (EditPost w (st.insE who off text) (st.insR who off text)) := by
  have HN := Lib.hid (newMk_any w B S b st D h ok who hw0 hw1)
  have HD := Lib.hid h
  have HOK := Lib.hid ok
  have HE0 : errV 0 = .nilIface := rfl
  have HE1 := errV_ne (show (1 : Int) ≠ 0 by decide)
  clear h ok
  by_cases hw : LDoc.whoE who = 0
  · have HN : Hid (Calls Tryz.prog 62 #[.pointer (some ⟨b, 0, none⟩), .int .i64 who] w fun e w' => ∃ b, e = .returned (.tuple #[.pointer (some ⟨b, 0, none⟩), .nilIface]) ∧ MkIs w' w.heap.size b (st.maker who) none 0 [] ∧ Below w.heap.size w w') :=
      HN.out.mono fun e w' hh => by
        rcases hh with ⟨_, h1⟩ | ⟨h1, _⟩
        · exact h1
        · exact absurd hw h1
    have HIE : Hid (st.insE who off text = ((st.maker who).ins st.book off text).2) := by show _ = _; unfold LDoc.insE; rw [if_neg (by omega)]
    have HIR : Hid (st.insR who off text = if ((st.maker who).ins st.book off text).2 = 0 then ((st.maker who).ins st.book off text).1.ops else []) := by show _ = _; unfold LDoc.insR; rw [HIE.out]
    have hmn : 0 ≤ (st.maker who).n ∧ (st.maker who).n ≤ 9999 := by
      obtain ⟨k, hk, _, e, h1, h2⟩ := nOf_known HOK.out.known hw
      exact ⟨by rw [e] at h1; exact h1, by rw [e] at h2; exact h2⟩
    have hmo : (st.maker who).ops.length = 0 := rfl
    clear hw
    generalize hr : (st.maker who).ins st.book off text = r at *
    obtain ⟨m', k⟩ := r
    simp only at HIE HIR
    have HRR := Lib.hid hr
    clear hr
    have hmn0 := hmn.1
    have hmn1 := hmn.2
    clear hmn
    generalize st.maker who = m at *
    rw [HIE.out, HIR.out]
    clear HIE HIR
    generalize hres : (if k = 0 then m'.ops else []) = res
    have HRES := Lib.hid hres
    clear hres
    go_enter Tryz.func28, Tryz.ntmps28
    go_wp2_with fail
    refine HN.out.mono ?_
    rintro e w1 ⟨bm, rfl, hm, hb⟩
    have HM := Lib.hid hm
    have HB1 := Lib.hid hb
    have HBK := Lib.hid (book_doc w1 _ _ _ _ _ (HD.out.below hb) HOK.out)
    clear hm hb HN
    go_wp2_with fail
    refine HBK.out.mono ?_
    rintro e w2 ⟨V, c, rfl, hO, hb⟩
    have HB2 := Lib.hid (HB1.out.trans (hb.mono HB1.out.size))
    have HM2 := Lib.hid (HM.out.below hb)
    have hs2 := HB2.out.size
    have HI : Hid (Calls Tryz.prog 67 #[.pointer (some ⟨bm, 0, none⟩), .slice V st.book.length c, .int .i64 off, .string text] w2 fun e w' => e = .returned (errV k) ∧ MkTo w2 w.heap.size bm none m' w') := by
      have := mkIns_any w2 w.heap.size bm m none 0 [] HM2.out hs2 V c st.book hO.reads HOK.out.book off ho text ht hmn0 (by omega) (by omega)
      rw [HRR.out] at this
      exact this
    obtain ⟨ev, hev⟩ : ∃ ev, ev = errV k := ⟨_, rfl⟩
    rw [← hev] at HI
    have HEV := Lib.hid hev
    clear hO hb HBK HM hev
    go_wp2_with fail
    refine HI.out.mono ?_
    rintro e w3 ⟨rfl, ht3⟩
    have HB3 := Lib.hid (HB2.out.trans (MkTo.below HM2.out ht3 (Nat.le_refl _) hs2))
    obtain ⟨V', c', ys', hm3, _, _⟩ := ht3
    have HM3 := Lib.hid hm3
    have HDN := Lib.hid (mkDone_any w3 _ _ _ _ _ _ hm3 k)
    rw [← HEV.out] at HDN
    clear hm3 HI
    go_wp2_with fail
    refine HDN.out.mono ?_
    rintro e w4 ⟨rfl, rfl⟩
    have HF : Hid (∃ V2 c2 ys2, (if k = 0 then Value.slice V' ys'.length c' else .slice none 0 0) = .slice V2 ys2.length c2 ∧ ys2.map OpAt.op = (if k = 0 then m'.ops else []) ∧ OwnOps w4 w.heap.size V2 c2 ys2) := by
      by_cases hk : k = 0
      · rw [if_pos hk, if_pos hk]; exact ⟨_, _, _, rfl, HM3.out.same, HM3.out.ops⟩
      · rw [if_neg hk, if_neg hk]; exact ⟨none, 0, [], rfl, rfl, ⟨Own.nil _ _ _ _, by simp⟩⟩
    obtain ⟨V2, c2, ys2, f1, f2, f3⟩ := HF.out
    rw [f1]
    have F2 := Lib.hid f2
    have F3 := Lib.hid f3
    clear HF f1 f2 f3 HDN
    go_wp2_with fail
    go_ret2
    exact ⟨V2, c2, ys2, by rw [← HEV.out]; rfl, by rw [← HRES.out]; exact F2.out, F3.out, HB3.out⟩
  · have HN : Hid (Calls Tryz.prog 62 #[.pointer (some ⟨b, 0, none⟩), .int .i64 who] w fun e w' => e = .returned (.tuple #[.pointer none, errV 1]) ∧ Below w.heap.size w w') :=
      HN.out.mono fun e w' hh => by
        rcases hh with ⟨h1, _⟩ | ⟨_, h1⟩
        · exact absurd h1 hw
        · exact h1
    have HIE : Hid (st.insE who off text = 1) := if_pos hw
    have HIR : Hid (st.insR who off text = []) := by show _ = _; unfold LDoc.insR; rw [HIE.out, if_neg (by decide)]
    rw [HIE.out, HIR.out]
    rw [HE1] at HN
    clear hw HIE HIR
    go_enter Tryz.func28, Tryz.ntmps28
    go_wp2_with fail
    refine HN.out.mono ?_
    rintro e w1 ⟨rfl, hb⟩
    have HB1 := Lib.hid hb
    clear hb
    go_wp2_with fail
    go_ret2
    have := edit_bad (k := 1) HB1.out
    rw [HE1] at this
    exact this
end Go.Proofs.YtgmdnmdniidngaaGreatDoor
/- edit.Do, walked. Conditions: the document is right; the ops can be read, and lie apart from it. -/
namespace Go.Proofs.YtgmdnmdniidngaaGreatDoor
open Go.RowKit
set_option linter.unusedVariables false
/-- An op's dots can be read, and lie apart from the blocks S. -/
def OpFar (w : World) (S : List Nat) (y : OpAt) : Prop := Reads w w.heap.size 2 y.at_ y.op.seen.length (dcells y.op.seen) ∧ y.op.place.size ≤ 9223372036854775807 ∧ (0 < y.op.seen.length → ∀ g ∈ ob y.at_, g ∉ S)
structure DoMid (w : World) (B : Nat) (S : List Nat) (b : Nat) (A : Option Addr) (ys : List OpAt) (st : LDoc) (k : Nat) (wr : World) (S' : List Nat) (D' : DLay) (sk : LDoc) : Prop where
  doc : DocIs wr B S' b sk D'
  only : Only S w wr
  sub : ∀ g ∈ S', g ∈ S ∨ w.heap.size ≤ g
  ok : sk.Ok
  restE : st.doE (ys.map OpAt.op) = sk.doE ((ys.drop k).map OpAt.op)
  restR : st.doR (ys.map OpAt.op) = sk.doR ((ys.drop k).map OpAt.op)
def DoLoop (w : World) (B : Nat) (S : List Nat) (b : Nat) (A : Option Addr) (ys : List OpAt) (st : LDoc) (i : Value) (wr : World) : Prop := ∃ k : Nat, ∃ S' D' sk, k ≤ ys.length ∧ i = .int .i64 k ∧ Hid (DoMid w B S b A ys st k wr S' D' sk)
theorem DocIs.lt {w : World} {B : Nat} {S : List Nat} {b : Nat} {st : LDoc} {D : DLay} (h : DocIs w B S b st D) : ∀ g ∈ S, B ≤ g ∧ g < w.heap.size := h.own
namespace DoMid
variable {w wr w' : World} {B b : Nat} {S S' : List Nat} {A : Option Addr} {ys : List OpAt} {st sk : LDoc} {k : Nat} {D' : DLay}
/-- The world in which the op's box has been laid. -/
theorem boxed (h : DoMid w B S b A ys st k wr S' D' sk) (o : Obj) : DocIs (wr.alloc o) B S' b sk D' := h.doc.below ((Below.refl _ _).alloc (Nat.le_refl _) o)
theorem next (h : DoMid w B S b A ys st k wr S' D' sk) (hk : k < ys.length) (o : Obj) (he : sk.applyE ys[k].op = 0) (ht : DocTo (wr.alloc o) B S' b (sk.apply ys[k].op) w') : ∃ S2 D2, DoMid w B S b A ys st (k + 1) w' S2 D2 (sk.apply ys[k].op) := by
  obtain ⟨S2, D2, h1, h2, h3⟩ := ht
  have hd := List.drop_eq_getElem_cons hk
  have hsz : wr.heap.size ≤ (wr.alloc o).heap.size := by simp
  have hs0 := h.only.size
  refine ⟨S2, D2, h1, (h.only.alloc o).trans_new h2 (fun i hi => h.sub i hi), fun g hg => ?_, LDoc.apply_ok h.ok _, ?_, ?_⟩
  · rcases h3 g hg with h4 | h4
    · exact h.sub g h4
    · exact .inr (by omega)
  · rw [h.restE, hd, List.map_cons, LDoc.doE, if_neg (by omega)]
  · rw [h.restR, hd, List.map_cons, LDoc.doR, if_neg (by omega)]
theorem stop (h : DoMid w B S b A ys st k wr S' D' sk) (hk : k < ys.length) (o : Obj) (he : sk.applyE ys[k].op ≠ 0) (ht : DocTo (wr.alloc o) B S' b sk w') : st.doE (ys.map OpAt.op) = sk.applyE ys[k].op ∧ DocTo w B S b (st.doR (ys.map OpAt.op)) w' := by
  have hd := List.drop_eq_getElem_cons hk
  have hsz : wr.heap.size ≤ (wr.alloc o).heap.size := by simp
  have hs0 := h.only.size
  refine ⟨by rw [h.restE, hd, List.map_cons, LDoc.doE, if_pos he], ?_⟩
  rw [h.restR, hd, List.map_cons, LDoc.doR, if_pos he]
  exact DocTo.back (h.only.alloc o) h.sub ht
theorem fin (h : DoMid w B S b A ys st k wr S' D' sk) (hk : ys.length ≤ k) : st.doE (ys.map OpAt.op) = 0 ∧ DocTo w B S b (st.doR (ys.map OpAt.op)) wr := by
  have hd : ys.drop k = [] := List.drop_eq_nil_of_le hk
  refine ⟨by rw [h.restE, hd]; rfl, ?_⟩
  rw [h.restR, hd]
  exact ⟨S', D', h.doc, h.only, h.sub⟩
end DoMid
def DoPost (w : World) (B : Nat) (S : List Nat) (b : Nat) (k : Int) (st : LDoc) (e : Ending) (w' : World) : Prop := e = .returned (errV k) ∧ DocTo w B S b st w'
set_option maxRecDepth 100000 in
set_option maxHeartbeats 8000000 in
theorem do_any (w : World) (B : Nat) (S : List Nat) (b : Nat) (st : LDoc) (D : DLay) (h : DocIs w B S b st D) (ok : st.Ok) (A : Option Addr) (c : Nat) (ys : List OpAt) (hr : Reads w w.heap.size 6 A ys.length (ocells ys)) (ha : 0 < ys.length → ∀ g ∈ ob A, g ∉ S)
    (hf : ∀ y ∈ ys, OpFar w S y) (hl : ys.length ≤ 1000000) :
    Calls Tryz.prog 35 #[.pointer (some ⟨b, 0, none⟩), .slice A ys.length c] w (DoPost w B S b (st.doE (ys.map OpAt.op)) (st.doR (ys.map OpAt.op))) := by
  have HR := Lib.hid hr
  have HA := Lib.hid ha
  have HF := Lib.hid hf
  have HM0 : Hid (DoMid w B S b A ys st 0 w S D st) := ⟨h, Only.refl _ _, fun g hg => .inl hg, ok, rfl, rfl⟩
  clear hr ha hf h ok
  go_enter Tryz.func35, Tryz.ntmps35
  go_wp2_with fail
  go_loopw [11] (fun i wr => DoLoop w B S b A ys st i wr) (fun i _ => ys.length - (intOf i).toNat)
  case atStart => exact ⟨0, _, _, _, Nat.zero_le _, rfl, HM0.out⟩
  case round =>
    obtain ⟨k, S', D', sk, hk, rfl, HM⟩ := hrel
    have k0 : (0 : Int) ≤ (k : Int) := by omega
    by_cases hlt : k < ys.length
    · have k1 : (k : Int) < (ys.length : Int) := by omega
      have hro := Reads.only HR.out HM.out.only HA.out
      obtain ⟨ad, rfl, hab, d0, d1, d2, d3, d4, d5⟩ := hro.op hlt
      obtain ⟨f1, f2, f3⟩ := HF.out _ (List.getElem_mem hlt)
      have f1' := Reads.only f1 HM.out.only f3
      have hfar : 0 < ys[k].op.seen.length → ∀ g ∈ ob ys[k].at_, g ∉ S' := fun hn g hg hm => by
        rcases HM.out.sub g hm with h4 | h4
        · exact f3 hn g hg h4
        · obtain ⟨ad', e, hb, _⟩ := f1.2 hn
          rw [e] at hg; simp [ob] at hg; omega
      have HAP : Hid (∀ o : Obj, Calls Tryz.prog 10 #[.pointer (some ⟨b, 0, none⟩), ys[k].op.val ys[k].at_ ys[k].cap] (wr.alloc o) (ApplyPost (wr.alloc o) B S' b (sk.applyB ys[k].op) (sk.applyE ys[k].op) (sk.apply ys[k].op))) := fun o =>
        apply_doc (wr.alloc o) B S' b sk D' (HM.out.boxed o) HM.out.ok ys[k].op ys[k].at_ ys[k].cap f2 ((f1'.alloc (Nat.le_refl _) o).more (by simp)) hfar
      have HNX : Hid (∀ (he : sk.applyE ys[k].op = 0) (o : Obj) (w' : World), DocTo (wr.alloc o) B S' b (sk.apply ys[k].op) w' → ∃ S2 D2, DoMid w B S b (some ad) ys st (k + 1) w' S2 D2 (sk.apply ys[k].op)) := fun he o w' ht => HM.out.next hlt o he ht
      have HST : Hid (∀ (he : sk.applyE ys[k].op ≠ 0) (o : Obj) (w' : World), DocTo (wr.alloc o) B S' b sk w' → st.doE (ys.map OpAt.op) = sk.applyE ys[k].op ∧ DocTo w B S b (st.doR (ys.map OpAt.op)) w') := fun he o w' ht => HM.out.stop hlt o he ht
      have HBAD := Lib.hid (fun he : sk.applyE ys[k].op ≠ 0 => LDoc.applyE_bad (d := sk) (o := ys[k].op) rfl he)
      clear f1 f1' f2 f3 hfar hro hab
      generalize ys[k] = y at *
      have HE0 : errV 0 = .nilIface := rfl
      by_cases he : sk.applyE y.op = 0
      · have HNY := Lib.hid (HNX.out he)
        rw [he] at HAP
        clear HST HBAD he HNX
        generalize sk.apply y.op = sk2 at *
        generalize sk.applyB y.op = bb at *
        obtain ⟨⟨⟨who, n⟩, what, p, letter, seen⟩, ya, yc⟩ := y
        unfold LOp.val at HAP
        simp only at d0 d1 d2 d3 d4 d5 HAP
        go_wp2_with fail
        refine (HAP.out _).mono ?_
        rintro e w2 ⟨rfl, ht⟩
        have HN2 := Lib.hid (HNY.out _ _ ht)
        rw [HE0]
        clear ht HNY HAP
        go_wp2_with fail
        go_roundw
        case rel =>
          obtain ⟨S2, D2, hfin⟩ := HN2.out
          exact ⟨k + 1, S2, D2, sk2, by omega, by go_num, hfin⟩
        case measure => simp [intOf]; omega
      · obtain ⟨_, hb, hs⟩ := HBAD.out he
        have HSU := Lib.hid (HST.out he)
        have HV := Lib.hid (errV_ne he)
        rw [hb, hs] at HAP
        clear HNX HBAD he hb hs HST
        generalize sk.applyE y.op = ke at *
        obtain ⟨⟨⟨who, n⟩, what, p, letter, seen⟩, ya, yc⟩ := y
        unfold LOp.val at HAP
        simp only at d0 d1 d2 d3 d4 d5 HAP
        go_wp2_with fail
        refine (HAP.out _).mono ?_
        rintro e w2 ⟨rfl, ht⟩
        have HN2 := Lib.hid (HSU.out _ _ ht)
        rw [HV.out]
        clear ht HSU HAP
        go_wp2_with fail
        go_ret
        obtain ⟨n1, n2⟩ := HN2.out
        exact ⟨by rw [n1, HV.out]; rfl, n2⟩
    · have k1 : ¬ (k : Int) < (ys.length : Int) := by omega
      obtain ⟨f1, f2⟩ := HM.out.fin (by omega)
      have F1 := Lib.hid f1
      have F2 := Lib.hid f2
      clear f1 f2
      go_wp2_with fail
      go_ret
      exact ⟨by rw [F1.out]; rfl, F2.out⟩
end Go.Proofs.YtgmdnmdniidngaaGreatDoor
/- cursor.Anchor, Resolve, Range, walked. Conditions: places that an int may count. -/
namespace Go.Proofs.YtgmdnmdniidngaaGreatDoor
open Go.RowKit
set_option linter.unusedVariables false

theorem empty_yes {p : ByteArray} (h : p.size = 0) : p.toList.isEmpty = true := by
  rw [toList_data, List.isEmpty_iff]
  exact List.eq_nil_of_length_eq_zero (by rw [Array.length_toList]; exact h)
theorem empty_no {p : ByteArray} (h : p.size ≠ 0) : p.toList.isEmpty = false := by
  rw [toList_data]
  cases hl : p.data.toList with
  | nil =>
    have : p.data.toList.length = 0 := by rw [hl]; rfl
    rw [Array.length_toList] at this
    exact absurd this h
  | cons a b => rfl
/-- Where a cursor is, of a book that is right. -/
def posOf (l : List LLeaf) (p : ByteArray) : Nat := if p.size = 0 then (textOf l).size else (textOf (l.take (ahead l p))).size
def cpErr (p : ByteArray) : Int := if p.size = 0 then 0 else placeErr p
def anchErr (l : List LLeaf) (off : Int) : Int := if bookErr l ≠ 0 then bookErr l else if off < 0 ∨ ((textOf l).size : Int) < off then 1 else 0
def anchRes (l : List LLeaf) (off : Int) : ByteArray := if anchErr l off = 0 ∧ off < ((textOf l).size : Int) then (l.getD (nthFrom 0 l off).toNat default).place else ⟨#[]⟩
def resErr (l : List LLeaf) (p : ByteArray) : Int := if bookErr l ≠ 0 then bookErr l else cpErr p
def resVal (l : List LLeaf) (p : ByteArray) : Int := if resErr l p = 0 then (posOf l p : Int) else 0
def rngErr (l : List LLeaf) (p q : ByteArray) : Int := if resErr l p ≠ 0 then resErr l p else if cpErr q ≠ 0 then cpErr q else if posOf l q < posOf l p then 3 else 0
def rngRes (l : List LLeaf) (p q : ByteArray) : ByteArray := if rngErr l p q = 0 then (textOf l).extract (posOf l p) (posOf l q) else ⟨#[]⟩
theorem text_size (l : List LLeaf) : (textOf l).size = (textL l).length := strOf_size _
theorem text_take_le (l : List LLeaf) (i : Nat) : (textL (l.take i)).length ≤ (textL l).length := by
  have e : textL l = textL (l.take i) ++ textL (l.drop i) := by
    unfold textL
    rw [← List.map_append, ← List.filter_append, List.take_append_drop]
  rw [e, List.length_append]; omega
theorem pos_le (l : List LLeaf) (p : ByteArray) : posOf l p ≤ (textOf l).size := by
  unfold posOf
  split
  · exact Nat.le_refl _
  · rw [text_size, text_size]; exact text_take_le l _
theorem place_size {p : ByteArray} (h : placeErr p = 0) : p.size ≠ 0 := by
  intro h0
  unfold placeErr at h
  rw [if_neg (by omega)] at h
  by_cases h1 : Letters p ∧ EndOk p
  · have := h1.2.1; omega
  · rw [if_neg h1] at h; omega
def StrPost (w : World) (s : ByteArray) (k : Int) (e : Ending) (w' : World) : Prop := e = .returned (.tuple #[.string s, errV k]) ∧ Below w.heap.size w w'
def RgLoop (w : World) (p q : ByteArray) (i : Value) (wr : World) : Prop :=
  ∃ k : Nat, k ≤ 2 ∧ i = .int .i64 k ∧ Hid (1 ≤ k → cpErr p = 0) ∧ Hid (2 ≤ k → cpErr q = 0) ∧ Hid (Below w.heap.size w wr)
section
variable (w : World) (A : Option Addr) (c : Nat) (l : List LLeaf) (h : Reads w w.heap.size 3 A l.length (lcells l)) (hs : Sized l) (hn : l.length ≤ c) (hc : c ≤ 9223372036854775807)
include h hs hn hc
end
end Go.Proofs.YtgmdnmdniidngaaGreatDoor
/- Cursors stay by their letters when letters are typed: plain. Conditions: none. -/
namespace Go.Proofs.YtgmdnmdniidngaaGreatDoor
open Go.RowKit
set_option linter.unusedVariables false
theorem textL_app (a b : List LLeaf) : textL (a ++ b) = textL a ++ textL b := by simp [textL]
theorem ahead_at {l : List LLeaf} (hr : Rising l) {n : Nat} (hn : n < l.length) : ahead l l[n].place = n :=
  ahead_of (by omega) (fun k hk hkj => rising_lt hr k n hk hn hkj) (fun k hk hjk => by
    rcases Nat.lt_or_ge n k with h1 | h1
    · exact less_asymm' _ _ (rising_lt hr n k hn hk h1)
    · obtain rfl : k = n := by omega
      exact less_irrefl' _)
/-- Where a cursor is anchored. -/
theorem anch_cases {l : List LLeaf} (hb : BookOk l) {at_ : Int} (h0 : 0 ≤ at_) (h1 : at_ ≤ ((textOf l).size : Int)) :
    (at_ = ((textOf l).size : Int) ∧ anchRes l at_ = ⟨#[]⟩) ∨ (at_ < ((textOf l).size : Int) ∧ ∃ n, ∃ hn : n < l.length, anchRes l at_ = l[n].place ∧ seenB l[n] = true ∧ ((textL (l.take n)).length : Int) = at_) := by
  have hz := bookErr_zero hb
  have hsz : (textOf l).size = (textL l).length := strOf_size _
  have he : anchErr l at_ = 0 := by unfold anchErr; rw [if_neg (by omega), if_neg (by omega)]
  by_cases h : at_ < ((textOf l).size : Int)
  · obtain ⟨o, rfl⟩ : ∃ o : Nat, at_ = o := ⟨at_.toNat, by omega⟩
    obtain ⟨n, hn, e1, e2, e3⟩ := nth_seen l 0 o (by omega)
    refine .inr ⟨h, n, hn, ?_, e2, by omega⟩
    unfold anchRes
    rw [if_pos ⟨he, h⟩, e1]
    simp [List.getD, hn]
  · exact .inl ⟨by omega, by unfold anchRes; rw [if_neg (fun hh => h hh.2)]⟩
theorem anch_ok {l : List LLeaf} (hb : BookOk l) {at_ : Int} (h0 : 0 ≤ at_) (h1 : at_ ≤ ((textOf l).size : Int)) : cpErr (anchRes l at_) = 0 ∧ (posOf l (anchRes l at_) : Int) = at_ := by
  rcases anch_cases hb h0 h1 with ⟨e1, e2⟩ | ⟨e1, n, hn, e2, e3, e4⟩
  · rw [e2]; exact ⟨rfl, by unfold posOf; rw [if_pos (show (⟨#[]⟩ : ByteArray).size = 0 from rfl)]; omega⟩
  · rw [e2]
    have hp := (hb.leafs _ (List.getElem_mem hn)).place
    have hs := place_size hp
    refine ⟨by unfold cpErr; rw [if_neg hs]; exact hp, ?_⟩
    unfold posOf
    rw [if_neg hs, ahead_at hb.rising hn]
    rw [show (textOf (l.take n)).size = (textL (l.take n)).length from strOf_size _]
    exact e4
/-- Letters are put in: a cursor is moved, or not. -/
theorem anch_moves {l a b new : List LLeaf} (hl : l = a ++ b) (hb : BookOk l) (hb2 : BookOk (a ++ new ++ b)) {at_ off : Int} (h0 : 0 ≤ at_) (h1 : at_ ≤ ((textOf l).size : Int)) (ho : ((textL a).length : Int) = off) :
    (posOf (a ++ new ++ b) (anchRes l at_) : Int) = if off ≤ at_ then at_ + (textL new).length else at_ := by
  have hsz : (textOf l).size = (textL l).length := strOf_size _
  have hsl : (textL l).length = (textL a).length + (textL b).length := by rw [hl, textL_app, List.length_append]
  rcases anch_cases hb h0 h1 with ⟨e1, e2⟩ | ⟨e1, n, hn, e2, e3, e4⟩
  · rw [e2]
    unfold posOf
    rw [if_pos (show (⟨#[]⟩ : ByteArray).size = 0 from rfl), show (textOf (a ++ new ++ b)).size = (textL (a ++ new ++ b)).length from strOf_size _, textL_app, textL_app, if_pos (by omega)]
    simp only [List.length_append]
    omega
  · have hp := (hb.leafs _ (List.getElem_mem hn)).place
    have hs := place_size hp
    rw [e2]
    unfold posOf
    rw [if_neg hs]
    by_cases hna : n < a.length
    · have hn2 : n < (a ++ new ++ b).length := by simp; omega
      have e5 : (a ++ new ++ b)[n] = l[n] := by
        subst hl
        rw [List.getElem_append_left (by simp; omega), List.getElem_append_left hna, List.getElem_append_left hna]
      have e6 := ahead_at hb2.rising hn2
      rw [e5] at e6
      rw [e6, show (textOf ((a ++ new ++ b).take n)).size = (textL ((a ++ new ++ b).take n)).length from strOf_size _]
      have e7 : (a ++ new ++ b).take n = l.take n := by
        subst hl
        rw [List.append_assoc, List.take_append_of_le_length (by omega), List.take_append_of_le_length (by omega)]
      rw [e7, if_neg, e4]
      have e8 : a[n] = l[n] := by subst hl; rw [List.getElem_append_left hna]
      have h3 := textL_take (l := a) hna
      rw [e8, if_pos e3] at h3
      have h4 := text_take_le a (n + 1)
      rw [h3, List.length_append] at h4
      have h5 : l.take n = a.take n := by subst hl; rw [List.take_append_of_le_length (by omega)]
      rw [h5] at e4
      simp at h4
      omega
    · have hn2 : n + new.length < (a ++ new ++ b).length := by subst hl; simp at hn ⊢; omega
      have hnb : n - a.length < b.length := by subst hl; simp at hn; omega
      have e5 : (a ++ new ++ b)[n + new.length] = l[n] := by
        subst hl
        rw [List.getElem_append_right (by simp; omega), List.getElem_append_right (by omega)]
        congr 1
        simp; omega
      have e6 := ahead_at hb2.rising hn2
      rw [e5] at e6
      rw [e6, show (textOf ((a ++ new ++ b).take (n + new.length))).size = (textL ((a ++ new ++ b).take (n + new.length))).length from strOf_size _]
      have e7 : (a ++ new ++ b).take (n + new.length) = a ++ new ++ b.take (n - a.length) := by
        rw [List.take_append, List.take_of_length_le (by simp; omega)]
        congr 2
        simp; omega
      have e8 : l.take n = a ++ b.take (n - a.length) := by
        subst hl
        rw [List.take_append, List.take_of_length_le (by omega)]
      rw [e8, textL_app, List.length_append] at e4
      rw [e7, textL_app, textL_app, if_pos (by omega)]
      simp only [List.length_append]
      omega
theorem insR_small {d : LDoc} {who off : Int} {text : ByteArray} : ∀ o ∈ d.insR who off text, o.place.size ≤ 12 := by
  by_cases h : d.insE who off text = 0
  · obtain ⟨h1, h2, h3, h4⟩ := LDoc.ins_ok h
    rw [h3]
    generalize rightOf d.book (idxOf d.book off) = right at *
    generalize leftOf d.book off = left at *
    generalize nOf d.known ⟨who, 0⟩ = n at *
    generalize text.toList = t at *
    clear h h1 h2 h3
    induction t generalizing left n with
    | nil => intro o ho; simp [typedOps] at ho
    | cons c t ih =>
      intro o ho
      rw [typedOps] at ho
      rcases List.mem_cons.1 ho with rfl | ho
      · exact (okPlace (good_of h4.1).check).1
      · exact ih _ _ h4.2 o ho
  · intro o ho
    unfold LDoc.insR at ho
    rw [if_neg h] at ho
    cases ho
theorem insR_len {d : LDoc} {who off : Int} {text : ByteArray} : (d.insR who off text).length ≤ 200 := by
  by_cases h : d.insE who off text = 0
  · obtain ⟨h1, h2, h3, h4⟩ := LDoc.ins_ok h
    rw [h3, typedOps_len, toList_len]
    exact (insErr_zero h2).1
  · unfold LDoc.insR
    rw [if_neg h]; simp
end Go.Proofs.YtgmdnmdniidngaaGreatDoor
/- A closed fact that many laws begin with: what is typed into a new document; and ops that a call has laid lie apart from a document. Conditions: none. -/
namespace Go.Proofs.YtgmdnmdniidngaaGreatDoor
open Go.RowKit
set_option linter.unusedVariables false
theorem sized_ok {l : List LLeaf} (h : BookOk l) : Sized l := fun x hx => by have := place_small (h.leafs x hx).place; omega
theorem ops_apart {w1 w2 : World} {B N b : Nat} {S : List Nat} {st : LDoc} {D : DLay} (h : DocIs w1 B S b st D) (hN : w1.heap.size ≤ N) {V : Option Addr} {c : Nat} {ys : List OpAt} (ho : OwnOps w2 N V c ys) (hp : ∀ o ∈ ys.map OpAt.op, o.place.size ≤ 12) :
    (0 < ys.length → ∀ g ∈ ob V, g ∉ S) ∧ ∀ y ∈ ys, OpFar w2 S y := by
  refine ⟨fun _ g hg hm => ?_, fun y hy => ⟨(ho.seen y hy).reads, ?_, fun _ g hg hm => ?_⟩⟩
  · have := (ho.row.lt g hg).1; have := (h.own g hm).2; omega
  · have := hp y.op (List.mem_map.2 ⟨y, hy, rfl⟩); omega
  · have := ((ho.seen y hy).lt g hg).1; have := (h.own g hm).2; omega
/-- edit.Do of ops that edit.Insert has made, on the same document. -/
theorem do_ins {w7 w8 : World} {B b : Nat} {S : List Nat} {st : LDoc} {D : DLay} (h : DocIs w7 B S b st D) (ok : st.Ok) {who off : Int} {text : ByteArray} {V : Option Addr} {c : Nat} {zs : List OpAt} (hz : zs.map OpAt.op = st.insR who off text) (ho : OwnOps w8 w7.heap.size V c zs) (hb : Below w7.heap.size w7 w8) :
    Calls Tryz.prog 35 #[.pointer (some ⟨b, 0, none⟩), .slice V zs.length c] w8 (fun e w' => e = .returned (errV (st.doE (st.insR who off text))) ∧ DocTo w8 B S b (st.doR (st.insR who off text)) w') := by
  obtain ⟨a1, a2⟩ := ops_apart h (Nat.le_refl _) ho (by rw [hz]; exact insR_small)
  have hl : zs.length ≤ 200 := by have := insR_len (d := st) (who := who) (off := off) (text := text); rw [← hz, List.length_map] at this; exact this
  have := do_any w8 B S b st D (h.below hb) ok V c zs ho.row.reads a1 a2 (by omega)
  rw [hz] at this
  exact this
def hiT : ByteArray := ⟨#[104, 105]⟩
def hiDoc : LDoc := LDoc.new.doR (LDoc.new.insR 1 0 hiT)
theorem hi_ins : LDoc.new.insE 1 0 hiT = 0 := by decide +kernel
theorem hi_do : LDoc.new.doE (LDoc.new.insR 1 0 hiT) = 0 := by decide +kernel
theorem hi_text : textOf hiDoc.book = hiT := by decide +kernel
theorem hi_ok : hiDoc.Ok := LDoc.doR_ok _ LDoc.new_ok
end Go.Proofs.YtgmdnmdniidngaaGreatDoor
/- Two documents beside each other; a row of ops apart from them. Plain, and by the contract of Apply. Conditions: none of our own. -/
namespace Go.Proofs.YtgmdnmdniidngaaGreatDoor
open Go.RowKit
set_option linter.unusedVariables false
/-- Two documents of the call's own that share no block. -/
structure Docs2 (w : World) (B b1 b2 : Nat) (s1 s2 : LDoc) (wr : World) (S1 S2 : List Nat) (D1 D2 : DLay) : Prop where
  one : DocIs wr B S1 b1 s1 D1
  two : DocIs wr B S2 b2 s2 D2
  apart : ∀ g ∈ S1, g ∉ S2
  below : Below w.heap.size w wr
  base : w.heap.size ≤ B
namespace Docs2
variable {w wr w' : World} {B b1 b2 : Nat} {s1 s2 s : LDoc} {S1 S2 : List Nat} {D1 D2 : DLay}
theorem left (h : Docs2 w B b1 b2 s1 s2 wr S1 S2 D1 D2) (ht : DocTo wr B S1 b1 s w') : ∃ S' D', Docs2 w B b1 b2 s s2 w' S' S2 D' D2 ∧ Only S1 wr w' ∧ ∀ g ∈ S', g ∈ S1 ∨ wr.heap.size ≤ g := by
  obtain ⟨S', D', h1, h2, h3⟩ := ht
  refine ⟨S', D', ⟨h1, h.two.only h2 (fun g hg => h.apart g hg), fun g hg hm => ?_, h.below.trans (h2.below h.below.size (fun g hg => by have := (h.one.own g hg).1; have := h.base; omega)), h.base⟩, h2, h3⟩
  rcases h3 g hg with h4 | h4
  · exact h.apart g h4 hm
  · have := (h.two.own g hm).2; omega
theorem right (h : Docs2 w B b1 b2 s1 s2 wr S1 S2 D1 D2) (ht : DocTo wr B S2 b2 s w') : ∃ S' D', Docs2 w B b1 b2 s1 s w' S1 S' D1 D' ∧ Only S2 wr w' ∧ ∀ g ∈ S', g ∈ S2 ∨ wr.heap.size ≤ g := by
  obtain ⟨S', D', h1, h2, h3⟩ := ht
  refine ⟨S', D', ⟨h.one.only h2 (fun g hg hm => h.apart g hm hg), h1, fun g hg hm => ?_, h.below.trans (h2.below h.below.size (fun g hg => by have := (h.two.own g hg).1; have := h.base; omega)), h.base⟩, h2, h3⟩
  rcases h3 g hm with h4 | h4
  · exact h.apart g hg h4
  · have := (h.one.own g hg).2; omega
theorem step (h : Docs2 w B b1 b2 s1 s2 wr S1 S2 D1 D2) (hb : Below wr.heap.size wr w') : Docs2 w B b1 b2 s1 s2 w' S1 S2 D1 D2 :=
  ⟨h.one.below hb, h.two.below hb, h.apart, h.below.trans (hb.mono h.below.size), h.base⟩
theorem drewN (h : Docs2 w B b1 b2 s1 s2 wr S1 S2 D1 D2) (n : Nat) : Docs2 w B b1 b2 s1 s2 (wr.drewN n) S1 S2 D1 D2 :=
  ⟨h.one.drewN n, h.two.drewN n, h.apart, below_drewN h.below n, h.base⟩
theorem swap (h : Docs2 w B b1 b2 s1 s2 wr S1 S2 D1 D2) : Docs2 w B b2 b1 s2 s1 wr S2 S1 D2 D1 :=
  ⟨h.two, h.one, fun g h1 h2 => h.apart g h2 h1, h.below, h.base⟩
/-- The first is there; the second is newly made. -/
theorem make (hw : Below w.heap.size w wr) (hB : w.heap.size ≤ B) (h1 : DocIs wr B S1 b1 s1 D1) (hb : Below wr.heap.size wr w') (h2 : DocIs w' wr.heap.size S2 b2 s2 D2) : Docs2 w B b1 b2 s1 s2 w' S1 S2 D1 D2 :=
  ⟨h1.below hb, { h2 with book := h2.book.mono h1.size, marks := h2.marks.mono h1.size, known := h2.known.mono h1.size, ops := h2.ops.mono h1.size, seen := fun y hy => (h2.seen y hy).mono h1.size, own := fun g hg => by have := h2.own g hg; have := h1.size; omega },
    fun g hg hm => by have := (h1.own g hg).2; have := (h2.own g hm).1; omega, hw.trans (hb.mono hw.size), hB⟩
end Docs2
/-- A row of ops that reads, apart from the blocks S. -/
structure OpsBy (wr : World) (S : List Nat) (V : Option Addr) (zs : List OpAt) : Prop where
  row : Reads wr wr.heap.size 6 V zs.length (ocells zs)
  far : 0 < zs.length → ∀ g ∈ ob V, g ∉ S
  each : ∀ y ∈ zs, OpFar wr S y
namespace OpsBy
variable {wr w' : World} {S S' T : List Nat} {V : Option Addr} {zs : List OpAt}
theorem only (h : OpsBy wr S V zs) (ho : Only T wr w') (hT : ∀ g ∈ T, g ∈ S ∨ wr.heap.size ≤ g) (hS : ∀ g ∈ S', g ∈ S ∨ wr.heap.size ≤ g) : OpsBy w' S' V zs := by
  have key : ∀ {size n : Nat} {A : Option Addr} {xs : List Value}, Reads wr wr.heap.size size A n xs → (0 < n → ∀ g ∈ ob A, g ∉ S) → (0 < n → ∀ g ∈ ob A, g ∉ T) ∧ (0 < n → ∀ g ∈ ob A, g ∉ S') := fun {size n A xs} hr hf => by
    have hl : 0 < n → ∀ g ∈ ob A, g < wr.heap.size := fun hn g hg => by
      obtain ⟨ad, e, hb, _⟩ := hr.2 hn
      rw [e] at hg; simp [ob] at hg; omega
    refine ⟨fun hn g hg hm => ?_, fun hn g hg hm => ?_⟩
    · rcases hT g hm with h1 | h1
      · exact hf hn g hg h1
      · have := hl hn g hg; omega
    · rcases hS g hm with h1 | h1
      · exact hf hn g hg h1
      · have := hl hn g hg; omega
  obtain ⟨k1, k2⟩ := key h.row h.far
  refine ⟨h.row.only ho k1, k2, fun y hy => ?_⟩
  obtain ⟨f1, f2, f3⟩ := h.each y hy
  obtain ⟨k3, k4⟩ := key f1 f3
  exact ⟨f1.only ho k3, f2, k4⟩
theorem below (h : OpsBy wr S V zs) (hb : Below wr.heap.size wr w') : OpsBy w' S V zs := h.only (Only.of_below (S := []) hb) (by simp) (fun g hg => .inl hg)
theorem sub (h : OpsBy wr S V zs) (hs : ∀ g ∈ S', g ∈ S) : OpsBy wr S' V zs :=
  ⟨h.row, fun hn g hg hm => h.far hn g hg (hs g hm), fun y hy => ⟨(h.each y hy).1, (h.each y hy).2.1, fun hn g hg hm => (h.each y hy).2.2 hn g hg (hs g hm)⟩⟩
theorem of_own {N : Nat} {c : Nat} (h : OwnOps wr N V c zs) (hp : ∀ o ∈ zs.map OpAt.op, o.place.size ≤ 12) (hS : ∀ g ∈ S, g < N) : OpsBy wr S V zs := by
  refine ⟨h.row.reads, fun _ g hg hm => ?_, fun y hy => ⟨(h.seen y hy).reads, ?_, fun _ g hg hm => ?_⟩⟩
  · have := (h.row.lt g hg).1; have := hS g hm; omega
  · have := hp y.op (List.mem_map.2 ⟨y, hy, rfl⟩); omega
  · have := ((h.seen y hy).lt g hg).1; have := hS g hm; omega
theorem do_ (h : OpsBy wr S V zs) {B b : Nat} {st : LDoc} {D : DLay} (hd : DocIs wr B S b st D) (ok : st.Ok) (c : Nat) (hl : zs.length ≤ 1000000) :
    Calls Tryz.prog 35 #[.pointer (some ⟨b, 0, none⟩), .slice V zs.length c] wr (DoPost wr B S b (st.doE (zs.map OpAt.op)) (st.doR (zs.map OpAt.op))) :=
  do_any wr B S b st D hd ok V c zs h.row h.far h.each hl
end OpsBy
/-- Two documents to which the same ops were applied. -/
def PairAt (w : World) (B b1 b2 n : Nat) (wr : World) : Prop := ∃ st S1 S2 D1 D2, Docs2 w B b1 b2 st st wr S1 S2 D1 D2 ∧ st.Ok ∧ Says st.ops st ∧ st.ops.length ≤ n
def PairLoop (w : World) (B b1 b2 : Nat) (i : Value) (wr : World) : Prop := ∃ k : Nat, k ≤ 60 ∧ i = .int .i64 k ∧ Hid (PairAt w B b1 b2 k wr)
theorem PairAt.more {w wr : World} {B b1 b2 n m : Nat} (h : PairAt w B b1 b2 n wr) (hm : n ≤ m) : PairAt w B b1 b2 m wr := by
  obtain ⟨st, S1, S2, D1, D2, h1, h2, h3, h4⟩ := h
  exact ⟨st, S1, S2, D1, D2, h1, h2, h3, by omega⟩
theorem PairAt.round {w wr : World} {B b1 b2 n : Nat} (h : PairAt w B b1 b2 n wr) {A : Option Addr} {ys : List OpAt} (hr : Reads w w.heap.size 6 A ys.length (ocells ys)) (hg : ∀ y ∈ ys, y.Good w) {k : Nat} (hk : k < ys.length) :
    ∃ ad who nn what p letter seen ya yc, A = some ad ∧ Below w.heap.size w wr ∧ Hid (∀ W, Below w.heap.size w W → W.cell? (ad.add (k * 6)) = some (.int .i64 who) ∧ W.cell? ⟨(ad.add (k * 6)).block, (ad.add (k * 6)).off + 1, none⟩ = some (.int .i64 nn) ∧ W.cell? ⟨(ad.add (k * 6)).block, (ad.add (k * 6)).off + 2, none⟩ = some (.int .i64 what) ∧
      W.cell? ⟨(ad.add (k * 6)).block, (ad.add (k * 6)).off + 3, none⟩ = some (.string p) ∧ W.cell? ⟨(ad.add (k * 6)).block, (ad.add (k * 6)).off + 4, none⟩ = some (.int .i64 letter) ∧ W.cell? ⟨(ad.add (k * 6)).block, (ad.add (k * 6)).off + 5, none⟩ = some (.slice ya seen yc)) ∧
      Hid (Calls Tryz.prog 10 #[.pointer (some ⟨b1, 0, none⟩), .agg #[.int .i64 who, .int .i64 nn, .int .i64 what, .string p, .int .i64 letter, .slice ya seen yc]] wr (fun e w1 => (∃ (is : Bool) (ke : Int), e = .returned (.tuple #[.bool is, errV ke])) ∧ Below w.heap.size w w1 ∧
        Calls Tryz.prog 10 #[.pointer (some ⟨b2, 0, none⟩), .agg #[.int .i64 who, .int .i64 nn, .int .i64 what, .string p, .int .i64 letter, .slice ya seen yc]] w1 (fun e w2 => (∃ (is : Bool) (ke : Int), e = .returned (.tuple #[.bool is, errV ke])) ∧ PairAt w B b1 b2 (n + 1) w2))) := by
  obtain ⟨st, S1, S2, D1, D2, hd, hok, hs, hl⟩ := h
  obtain ⟨ad, rfl, hcel⟩ : ∃ ad, A = some ad ∧ ∀ W, Below w.heap.size w W → W.cell? (ad.add (k * 6)) = some (.int .i64 ys[k].op.dot.who) ∧ W.cell? ⟨(ad.add (k * 6)).block, (ad.add (k * 6)).off + 1, none⟩ = some (.int .i64 ys[k].op.dot.n) ∧ W.cell? ⟨(ad.add (k * 6)).block, (ad.add (k * 6)).off + 2, none⟩ = some (.int .i64 ys[k].op.what) ∧
      W.cell? ⟨(ad.add (k * 6)).block, (ad.add (k * 6)).off + 3, none⟩ = some (.string ys[k].op.place) ∧ W.cell? ⟨(ad.add (k * 6)).block, (ad.add (k * 6)).off + 4, none⟩ = some (.int .i64 ys[k].op.letter) ∧ W.cell? ⟨(ad.add (k * 6)).block, (ad.add (k * 6)).off + 5, none⟩ = some (.slice ys[k].at_ ys[k].op.seen.length ys[k].cap) := by
    obtain ⟨ad, e, _⟩ := hr.op hk
    refine ⟨ad, e, fun W hW => ?_⟩
    obtain ⟨ad', e', _, hh⟩ := (hr.below hW).op hk
    rw [e] at e'
    injection e' with e'
    subst e'
    exact hh
  have hgood := fun W (hW : Below w.heap.size w W) => (hg _ (List.getElem_mem hk)).below hW
  have hfar : ∀ S : List Nat, (∀ g ∈ S, B ≤ g) → 0 < ys[k].op.seen.length → ∀ g ∈ ob ys[k].at_, g ∉ S := fun S hS => (hg _ (List.getElem_mem hk)).1.far (fun g hg => by have := hS g hg; have := hd.base; omega)
  have hps := (hgood wr hd.below).2.1
  have HA := apply_doc wr _ _ _ _ _ hd.one hok ys[k].op ys[k].at_ ys[k].cap (by unfold maxLen at hps; omega) (hgood wr hd.below).1 (hfar S1 (fun g hg => (hd.one.own g hg).1))
  refine ⟨ad, _, _, _, _, _, _, _, _, rfl, hd.below, hcel, HA.mono ?_⟩
  rintro e w1 ⟨rfl, ht⟩
  obtain ⟨S', D', hd', ho', _⟩ := hd.left ht
  refine ⟨⟨_, _, rfl⟩, hd'.below, ?_⟩
  have HA2 := apply_doc w1 _ _ _ _ _ hd'.two hok ys[k].op ys[k].at_ ys[k].cap (by unfold maxLen at hps; omega) (hgood w1 hd'.below).1 (hfar S2 (fun g hg => (hd'.two.own g hg).1))
  refine HA2.mono ?_
  rintro e w2 ⟨rfl, ht2⟩
  obtain ⟨S'', D'', hd'', _, _⟩ := hd'.right ht2
  refine ⟨⟨_, _, rfl⟩, _, S', S'', D', D'', hd'', LDoc.apply_ok hok _, LDoc.apply_says hok hs _, ?_⟩
  rcases LDoc.apply_three (d := st) ys[k].op with ⟨_, _, q⟩ | ⟨_, _, q⟩ | ⟨_, _, q⟩
  · rw [q]; simp; omega
  · rw [q]; omega
  · rw [q]; omega
/-- Two documents, and rows of ops apart from both. -/
def Scene (w : World) (B b1 b2 : Nat) (s1 s2 : LDoc) (rows : List (Option Addr × List OpAt)) (wr : World) : Prop :=
  ∃ S1 S2 D1 D2, Docs2 w B b1 b2 s1 s2 wr S1 S2 D1 D2 ∧ ∀ r ∈ rows, OpsBy wr (S1 ++ S2) r.1 r.2
namespace Scene
variable {w wr w' : World} {B b1 b2 : Nat} {s1 s2 s : LDoc} {rows : List (Option Addr × List OpAt)}
theorem of_docs {S1 S2 : List Nat} {D1 D2 : DLay} (h : Docs2 w B b1 b2 s1 s2 wr S1 S2 D1 D2) : Scene w B b1 b2 s1 s2 [] wr := ⟨S1, S2, D1, D2, h, by simp⟩
theorem below (h : Scene w B b1 b2 s1 s2 rows wr) : Below w.heap.size w wr := by
  obtain ⟨S1, S2, D1, D2, h1, h2⟩ := h
  exact h1.below
theorem step (h : Scene w B b1 b2 s1 s2 rows wr) (hb : Below wr.heap.size wr w') : Scene w B b1 b2 s1 s2 rows w' := by
  obtain ⟨S1, S2, D1, D2, h1, h2⟩ := h
  exact ⟨S1, S2, D1, D2, h1.step hb, fun r hr => (h2 r hr).below hb⟩
theorem drewN (h : Scene w B b1 b2 s1 s2 rows wr) (n : Nat) : Scene w B b1 b2 s1 s2 rows (wr.drewN n) := h.step (below_drewN (Below.refl _ _) n)
theorem drew (h : Scene w B b1 b2 s1 s2 rows wr) : Scene w B b1 b2 s1 s2 rows wr.drew := h.step ((Below.refl _ _).drew)
theorem swap (h : Scene w B b1 b2 s1 s2 rows wr) : Scene w B b2 b1 s2 s1 rows wr := by
  obtain ⟨S1, S2, D1, D2, h1, h2⟩ := h
  exact ⟨S2, S1, D2, D1, h1.swap, fun r hr => (h2 r hr).sub (fun g hg => by rcases List.mem_append.1 hg with h | h <;> simp [h])⟩
theorem left (h : Scene w B b1 b2 s1 s2 rows wr) {Q : LDoc → Ending → World → Prop} :
    ∃ S1 D1, DocIs wr B S1 b1 s1 D1 ∧ (∀ r ∈ rows, OpsBy wr S1 r.1 r.2) ∧ ∀ s w', DocTo wr B S1 b1 s w' → Scene w B b1 b2 s s2 rows w' := by
  obtain ⟨S1, S2, D1, D2, h1, h2⟩ := h
  refine ⟨S1, D1, h1.one, fun r hr => (h2 r hr).sub (fun g hg => by simp [hg]), fun s w' ht => ?_⟩
  obtain ⟨S', D', g1, g2, g3⟩ := h1.left ht
  refine ⟨S', S2, D', D2, g1, fun r hr => (h2 r hr).only g2 (fun g hg => .inl (by simp [hg])) (fun g hg => ?_)⟩
  rcases List.mem_append.1 hg with h | h
  · rcases g3 g h with h3 | h3
    · exact .inl (by simp [h3])
    · exact .inr h3
  · exact .inl (by simp [h])
theorem doL (h : Scene w B b1 b2 s1 s2 rows wr) (ok : s1.Ok) {V : Option Addr} {zs : List OpAt} (hr : (V, zs) ∈ rows) (c : Nat) (hl : zs.length ≤ 1000000) :
    Calls Tryz.prog 35 #[.pointer (some ⟨b1, 0, none⟩), .slice V zs.length c] wr (fun e w' => e = .returned (errV (s1.doE (zs.map OpAt.op))) ∧ Scene w B b1 b2 (s1.doR (zs.map OpAt.op)) s2 rows w') := by
  obtain ⟨S1, D1, h1, h2, h3⟩ := h.left (Q := fun _ _ _ => True)
  exact ((h2 _ hr).do_ h1 ok c hl).mono fun e w' hh => ⟨hh.1, h3 _ _ hh.2⟩
theorem doR (h : Scene w B b1 b2 s1 s2 rows wr) (ok : s2.Ok) {V : Option Addr} {zs : List OpAt} (hr : (V, zs) ∈ rows) (c : Nat) (hl : zs.length ≤ 1000000) :
    Calls Tryz.prog 35 #[.pointer (some ⟨b2, 0, none⟩), .slice V zs.length c] wr (fun e w' => e = .returned (errV (s2.doE (zs.map OpAt.op))) ∧ Scene w B b1 b2 s1 (s2.doR (zs.map OpAt.op)) rows w') :=
  (h.swap.doL ok hr c hl).mono fun e w' hh => ⟨hh.1, hh.2.swap⟩
theorem insL (h : Scene w B b1 b2 s1 s2 rows wr) (ok : s1.Ok) (who off : Int) (text : ByteArray) (hw0 : -9223372036854775808 ≤ who) (hw1 : who ≤ 9223372036854775807) (ho : off ≤ 9223372036854775807) (ht : text.size ≤ 9223372036854775807) :
    Calls Tryz.prog 28 #[.pointer (some ⟨b1, 0, none⟩), .int .i64 who, .int .i64 off, .string text] wr (fun e w' => ∃ V c zs, e = .returned (.tuple #[.slice V zs.length c, errV (s1.insE who off text)]) ∧ zs.map OpAt.op = s1.insR who off text ∧ zs.length ≤ 200 ∧ Scene w B b1 b2 s1 s2 ((V, zs) :: rows) w') := by
  obtain ⟨S1, S2, D1, D2, h1, h2⟩ := h
  refine (insert_any wr _ _ _ _ _ h1.one ok who off text hw0 hw1 ho ht).mono ?_
  rintro e w' ⟨V, c, zs, rfl, z1, z2, hb⟩
  refine ⟨V, c, zs, rfl, z1, by have := insR_len (d := s1) (who := who) (off := off) (text := text); rw [← z1, List.length_map] at this; exact this, S1, S2, D1, D2, h1.step hb, fun r hr => ?_⟩
  rcases List.mem_cons.1 hr with rfl | hr
  · exact OpsBy.of_own z2 (by rw [z1]; exact insR_small) (fun g hg => by
      rcases List.mem_append.1 hg with h | h
      · exact (h1.one.own g h).2
      · exact (h1.two.own g h).2)
  · exact (h2 r hr).below hb
theorem insR (h : Scene w B b1 b2 s1 s2 rows wr) (ok : s2.Ok) (who off : Int) (text : ByteArray) (hw0 : -9223372036854775808 ≤ who) (hw1 : who ≤ 9223372036854775807) (ho : off ≤ 9223372036854775807) (ht : text.size ≤ 9223372036854775807) :
    Calls Tryz.prog 28 #[.pointer (some ⟨b2, 0, none⟩), .int .i64 who, .int .i64 off, .string text] wr (fun e w' => ∃ V c zs, e = .returned (.tuple #[.slice V zs.length c, errV (s2.insE who off text)]) ∧ zs.map OpAt.op = s2.insR who off text ∧ zs.length ≤ 200 ∧ Scene w B b1 b2 s1 s2 ((V, zs) :: rows) w') :=
  (h.swap.insL ok who off text hw0 hw1 ho ht).mono fun e w' ⟨V, c, zs, h1, h2, h3, h4⟩ => ⟨V, c, zs, h1, h2, h3, h4.swap⟩
theorem bookL (h : Scene w B b1 b2 s1 s2 rows wr) (ok : s1.Ok) : Calls Tryz.prog 13 #[.pointer (some ⟨b1, 0, none⟩)] wr (fun e w' => ∃ V c, e = .returned (.slice V s1.book.length c) ∧ Own w' wr.heap.size 95 3 V s1.book.length c (lcells s1.book) ∧ Below wr.heap.size wr w' ∧ Scene w B b1 b2 s1 s2 rows w') := by
  obtain ⟨S1, D1, h1, h2, h3⟩ := h.left (Q := fun _ _ _ => True)
  exact (book_doc wr _ _ _ _ _ h1 ok).mono fun e w' ⟨V, c, g1, g2, g3⟩ => ⟨V, c, g1, g2, g3, h.step g3⟩
theorem bookR (h : Scene w B b1 b2 s1 s2 rows wr) (ok : s2.Ok) : Calls Tryz.prog 13 #[.pointer (some ⟨b2, 0, none⟩)] wr (fun e w' => ∃ V c, e = .returned (.slice V s2.book.length c) ∧ Own w' wr.heap.size 95 3 V s2.book.length c (lcells s2.book) ∧ Below wr.heap.size wr w' ∧ Scene w B b1 b2 s1 s2 rows w') :=
  (h.swap.bookL ok).mono fun e w' ⟨V, c, h1, h2, h3, h4⟩ => ⟨V, c, h1, h2, h3, h4.swap⟩
theorem marksL (h : Scene w B b1 b2 s1 s2 rows wr) (ok : s1.Ok) : Calls Tryz.prog 15 #[.pointer (some ⟨b1, 0, none⟩)] wr (fun e w' => ∃ V c, e = .returned (.slice V s1.marks.length c) ∧ Own w' wr.heap.size 85 3 V s1.marks.length c (mcells s1.marks) ∧ Below wr.heap.size wr w' ∧ Scene w B b1 b2 s1 s2 rows w') := by
  obtain ⟨S1, D1, h1, h2, h3⟩ := h.left (Q := fun _ _ _ => True)
  exact (marks_doc wr _ _ _ _ _ h1 ok).mono fun e w' ⟨V, c, g1, g2, g3⟩ => ⟨V, c, g1, g2, g3, h.step g3⟩
theorem marksR (h : Scene w B b1 b2 s1 s2 rows wr) (ok : s2.Ok) : Calls Tryz.prog 15 #[.pointer (some ⟨b2, 0, none⟩)] wr (fun e w' => ∃ V c, e = .returned (.slice V s2.marks.length c) ∧ Own w' wr.heap.size 85 3 V s2.marks.length c (mcells s2.marks) ∧ Below wr.heap.size wr w' ∧ Scene w B b1 b2 s1 s2 rows w') :=
  (h.swap.marksL ok).mono fun e w' ⟨V, c, h1, h2, h3, h4⟩ => ⟨V, c, h1, h2, h3, h4.swap⟩
theorem textL (h : Scene w B b1 b2 s1 s2 rows wr) (ok : s1.Ok) : Calls Tryz.prog 20 #[.pointer (some ⟨b1, 0, none⟩)] wr (fun e w' => e = .returned (.string (textOf s1.book)) ∧ Below wr.heap.size wr w' ∧ Scene w B b1 b2 s1 s2 rows w') := by
  obtain ⟨S1, D1, h1, h2, h3⟩ := h.left (Q := fun _ _ _ => True)
  exact (text_doc wr _ _ _ _ _ h1 ok).mono fun e w' ⟨g1, g2⟩ => ⟨g1, g2, h.step g2⟩
theorem textR (h : Scene w B b1 b2 s1 s2 rows wr) (ok : s2.Ok) : Calls Tryz.prog 20 #[.pointer (some ⟨b2, 0, none⟩)] wr (fun e w' => e = .returned (.string (textOf s2.book)) ∧ Below wr.heap.size wr w' ∧ Scene w B b1 b2 s1 s2 rows w') :=
  (h.swap.textL ok).mono fun e w' ⟨h1, h2, h3⟩ => ⟨h1, h2, h3.swap⟩
theorem rows_ (h : Scene w B b1 b2 s1 s2 rows wr) {V : Option Addr} {zs : List OpAt} (hr : (V, zs) ∈ rows) : Reads wr wr.heap.size 6 V zs.length (ocells zs) := by
  obtain ⟨S1, S2, D1, D2, h1, h2⟩ := h
  exact (h2 _ hr).row
end Scene
end Go.Proofs.YtgmdnmdniidngaaGreatDoor
/- The reference's document in memory: which blocks it turns, which it only reads. Plain lemmas. Conditions: none. -/
namespace Go.Proofs.YtgmdnmdniidngaaGreatDoor
open Go.RowKit
set_option linter.unusedVariables false
/-- Where the parts of the reference's document lie. -/
structure RLay where
  a1 : Option Addr
  c1 : Nat
  a2 : Option Addr
  c2 : Nat
  a3 : Option Addr
  c3 : Nat
  a4 : Option Addr
  c4 : Nat
  ys : List OpAt
def RLay.cells (D : RLay) (st : LDoc) : Array Value := #[.slice D.a1 st.book.length D.c1, .slice D.a2 st.marks.length D.c2, .slice D.a3 st.known.length D.c3, .slice D.a4 st.ops.length D.c4]
/-- A row that is read alone: its block is one of S, or lies below B, and is none of T. -/
structure Seat (w : World) (B : Nat) (S T : List Nat) (size : Nat) (A : Option Addr) (n : Nat) (xs : List Value) : Prop where
  row : Reads w w.heap.size size A n xs
  in_ : 0 < n → ∀ g ∈ ob A, g < B ∨ g ∈ S
  out : 0 < n → ∀ g ∈ ob A, g ∉ T
namespace Seat
variable {w w' : World} {B size n : Nat} {S S' T T' U : List Nat} {A : Option Addr} {xs : List Value}
theorem only (h : Seat w B S T size A n xs) (ho : Only U w w') (hU : ∀ g ∈ U, B ≤ g ∧ g ∉ S) : Seat w' B S T size A n xs :=
  ⟨h.row.only ho fun hn g hg hm => by
    obtain ⟨h1, h2⟩ := hU g hm
    rcases h.in_ hn g hg with h3 | h3
    · omega
    · exact h2 h3, h.in_, h.out⟩
/-- What may turn has turned. -/
theorem turned (h : Seat w B S T size A n xs) (ho : Only U w w') (hU : ∀ g ∈ U, g ∈ T ∨ w.heap.size ≤ g) : Seat w' B S T size A n xs :=
  ⟨h.row.only ho fun hn g hg hm => by
    obtain ⟨ad, e, hb, _⟩ := h.row.2 hn
    rcases hU g hm with h3 | h3
    · exact h.out hn g hg h3
    · rw [e] at hg; simp [ob] at hg; omega, h.in_, h.out⟩
theorem lt (h : Seat w B S T size A n xs) (hn : 0 < n) : ∀ g ∈ ob A, g < w.heap.size := fun g hg => by
  obtain ⟨ad, e, hb, _⟩ := h.row.2 hn
  rw [e] at hg; simp [ob] at hg; omega
theorem more (h : Seat w B S T size A n xs) (hS : ∀ g ∈ S, g ∈ S') (hT : ∀ g ∈ T', g ∈ T ∨ w.heap.size ≤ g) : Seat w B S' T' size A n xs :=
  ⟨h.row, fun hn g hg => (h.in_ hn g hg).imp id (hS g), fun hn g hg hm => by
    rcases hT g hm with h1 | h1
    · exact h.out hn g hg h1
    · have := h.lt hn g hg; omega⟩
theorem of_own {N c : Nat} {e : TypeId} (h : Own w N e size A n c xs) (hS : ∀ g ∈ ob A, g ∈ S) (hT : ∀ g ∈ T, g < N) : Seat w B S T size A n xs :=
  ⟨h.reads, fun _ g hg => .inr (hS g hg), fun _ g hg hm => by have := (h.lt g hg).1; have := hT g hm; omega⟩
end Seat
/-- The blocks that the reference's document turns. -/
def RLay.turns (D : RLay) (b : Nat) : List Nat := b :: (ob D.a3 ++ ob D.a4)
structure RDocIs (w : World) (B : Nat) (S : List Nat) (b : Nat) (st : LDoc) (D : RLay) : Prop where
  blk : Blk w b 45 (D.cells st)
  book : Seat w B S (D.turns b) 3 D.a1 st.book.length (lcells st.book)
  bookc : st.book.length ≤ D.c1 ∧ D.c1 ≤ 9223372036854775807
  marks : Seat w B S (D.turns b) 3 D.a2 st.marks.length (mcells st.marks)
  marksc : st.marks.length ≤ D.c2 ∧ D.c2 ≤ 9223372036854775807
  known : Own w B 3 1 D.a3 st.known.length D.c3 (ints st.known)
  ops : Own w B 33 6 D.a4 st.ops.length D.c4 (ocells D.ys)
  same : D.ys.map OpAt.op = st.ops
  seen : ∀ y ∈ D.ys, Seat w B S (D.turns b) 2 y.at_ y.op.seen.length (dcells y.op.seen)
  sub : ∀ g ∈ D.turns b, g ∈ S
  own : ∀ g ∈ S, B ≤ g ∧ g < w.heap.size
/-- What a step leaves: another document, only its blocks turned. -/
def RDocTo (w : World) (B : Nat) (S : List Nat) (b : Nat) (D : RLay) (st : LDoc) (w' : World) : Prop :=
  ∃ S' D', RDocIs w' B S' b st D' ∧ Only (D.turns b) w w' ∧ ∀ g ∈ S', g ∈ S ∨ w.heap.size ≤ g
namespace RDocIs
variable {w w' : World} {B : Nat} {S T : List Nat} {b : Nat} {st : LDoc} {D : RLay}
theorem only (h : RDocIs w B S b st D) (ho : Only T w w') (hT : ∀ g ∈ T, B ≤ g ∧ g ∉ S) : RDocIs w' B S b st D where
  blk := ho.blk h.blk (fun hm => (hT _ hm).2 (h.sub _ (by simp [RLay.turns])))
  book := h.book.only ho hT
  bookc := h.bookc
  marks := h.marks.only ho hT
  marksc := h.marksc
  known := h.known.only ho (fun g hg hm => (hT g hm).2 (h.sub g (by simp [RLay.turns, hg])))
  ops := h.ops.only ho (fun g hg hm => (hT g hm).2 (h.sub g (by simp [RLay.turns, hg])))
  same := h.same
  seen := fun y hy => (h.seen y hy).only ho hT
  sub := h.sub
  own := fun g hg => ⟨(h.own g hg).1, Nat.lt_of_lt_of_le (h.own g hg).2 ho.size⟩
theorem below (h : RDocIs w B S b st D) (hb : Below w.heap.size w w') : RDocIs w' B S b st D := h.only (T := []) (Only.of_below hb) (by simp)
theorem drewN (h : RDocIs w B S b st D) (n : Nat) : RDocIs (w.drewN n) B S b st D := h.below (below_drewN (Below.refl _ _) n)
theorem ys_len (h : RDocIs w B S b st D) : D.ys.length = st.ops.length := by rw [← h.same, List.length_map]
theorem b4 (h : RDocIs w B S b st D) : b ∉ ob D.a4 := h.ops.blk_ne h.blk (by decide)
theorem b3 (h : RDocIs w B S b st D) : b ∉ ob D.a3 := h.known.blk_ne h.blk (by decide)
theorem to_self (h : RDocIs w B S b st D) (hb : Below w.heap.size w w') : RDocTo w B S b D st w' := ⟨S, D, h.below hb, Only.of_below hb, fun g hg => .inl hg⟩
theorem mono {B' : Nat} (h : RDocIs w B S b st D) (hB : ∀ g ∈ S, B' ≤ g) (hh : B ≤ B') : RDocIs w B' S b st D :=
  { h with
    book := ⟨h.book.row, fun hn g hg => (h.book.in_ hn g hg).imp (by omega) id, h.book.out⟩
    marks := ⟨h.marks.row, fun hn g hg => (h.marks.in_ hn g hg).imp (by omega) id, h.marks.out⟩
    known := by
      rcases h.known with ⟨h1, h2⟩
      refine ⟨h1, ?_⟩
      rcases h2 with h2 | ⟨g, cap, cur, hv, hb, hr⟩
      · exact .inl h2
      · exact .inr ⟨g, cap, cur, hv, hB g (h.sub g (by injection hv with hv; simp [RLay.turns, hv, ob])), hr⟩
    ops := by
      rcases h.ops with ⟨h1, h2⟩
      refine ⟨h1, ?_⟩
      rcases h2 with h2 | ⟨g, cap, cur, hv, hb, hr⟩
      · exact .inl h2
      · exact .inr ⟨g, cap, cur, hv, hB g (h.sub g (by injection hv with hv; simp [RLay.turns, hv, ob])), hr⟩
    seen := fun y hy => ⟨(h.seen y hy).row, fun hn g hg => ((h.seen y hy).in_ hn g hg).imp (by omega) id, (h.seen y hy).out⟩
    own := fun g hg => ⟨hB g hg, (h.own g hg).2⟩ }
end RDocIs
/-- The program's document and the reference's, beside each other. -/
structure Twin (w : World) (B b1 b2 : Nat) (s1 s2 : LDoc) (wr : World) (S1 S2 : List Nat) (D1 : DLay) (D2 : RLay) : Prop where
  one : DocIs wr B S1 b1 s1 D1
  two : RDocIs wr B S2 b2 s2 D2
  apart : ∀ g ∈ S1, g ∉ S2
  below : Below w.heap.size w wr
  base : w.heap.size ≤ B
namespace Twin
variable {w wr w' : World} {B b1 b2 : Nat} {s1 s2 s : LDoc} {S1 S2 : List Nat} {D1 : DLay} {D2 : RLay}
theorem left (h : Twin w B b1 b2 s1 s2 wr S1 S2 D1 D2) (ht : DocTo wr B S1 b1 s w') : ∃ S' D', Twin w B b1 b2 s s2 w' S' S2 D' D2 ∧ Only S1 wr w' ∧ ∀ g ∈ S', g ∈ S1 ∨ wr.heap.size ≤ g := by
  obtain ⟨S', D', h1, h2, h3⟩ := ht
  refine ⟨S', D', ⟨h1, h.two.only h2 (fun g hg => ⟨(h.one.own g hg).1, h.apart g hg⟩), fun g hg hm => ?_, h.below.trans (h2.below h.below.size (fun g hg => by have := (h.one.own g hg).1; have := h.base; omega)), h.base⟩, h2, h3⟩
  rcases h3 g hg with h4 | h4
  · exact h.apart g h4 hm
  · have := (h.two.own g hm).2; omega
theorem right (h : Twin w B b1 b2 s1 s2 wr S1 S2 D1 D2) (ht : RDocTo wr B S2 b2 D2 s w') : ∃ S' D', Twin w B b1 b2 s1 s w' S1 S' D1 D' ∧ Only (D2.turns b2) wr w' ∧ ∀ g ∈ S', g ∈ S2 ∨ wr.heap.size ≤ g := by
  obtain ⟨S', D', h1, h2, h3⟩ := ht
  refine ⟨S', D', ⟨h.one.only h2 (fun g hg hm => h.apart g hm (h.two.sub g hg)), h1, fun g hg hm => ?_, h.below.trans (h2.below h.below.size (fun g hg => by have := (h.two.own g (h.two.sub g hg)).1; have := h.base; omega)), h.base⟩, h2, h3⟩
  rcases h3 g hm with h4 | h4
  · exact h.apart g hg h4
  · have := (h.one.own g hg).2; omega
theorem step (h : Twin w B b1 b2 s1 s2 wr S1 S2 D1 D2) (hb : Below wr.heap.size wr w') : Twin w B b1 b2 s1 s2 w' S1 S2 D1 D2 :=
  ⟨h.one.below hb, h.two.below hb, h.apart, h.below.trans (hb.mono h.below.size), h.base⟩
theorem drewN (h : Twin w B b1 b2 s1 s2 wr S1 S2 D1 D2) (n : Nat) : Twin w B b1 b2 s1 s2 (wr.drewN n) S1 S2 D1 D2 := h.step (below_drewN (Below.refl _ _) n)
/-- The program's is there; the reference's is newly made. -/
theorem make (hw : Below w.heap.size w wr) (hB : w.heap.size ≤ B) (h1 : DocIs wr B S1 b1 s1 D1) (hb : Below wr.heap.size wr w') (h2 : RDocIs w' B S2 b2 s2 D2) (hS : ∀ g ∈ S2, wr.heap.size ≤ g) : Twin w B b1 b2 s1 s2 w' S1 S2 D1 D2 :=
  ⟨h1.below hb, h2, fun g hg hm => by have := (h1.own g hg).2; have := hS g hm; omega, hw.trans (hb.mono hw.size), hB⟩
end Twin
end Go.Proofs.YtgmdnmdniidngaaGreatDoor
/- (*leafref2.Doc).seen, New, walked. Conditions: the document is right. -/
namespace Go.Proofs.YtgmdnmdniidngaaGreatDoor
open Go.RowKit
set_option linter.unusedVariables false
def sawOp (p : ByteArray) (x : LDot) (o : LOp) : Bool := decide (o.what = 4) && (decide (o.place = p) && inD o.seen x)
def SawLoop (w : World) (l : List LOp) (p : ByteArray) (x : LDot) (i : Value) (wr : World) : Prop := ∃ k : Nat, k ≤ l.length ∧ i = .int .i64 k ∧ Hid (Below w.heap.size w wr) ∧ Hid ((l.take k).any (sawOp p x) = false)
section
variable (w : World) (B : Nat) (S : List Nat) (b : Nat) (st : LDoc) (D : RLay) (h : RDocIs w B S b st D) (ok : st.Ok)
include h ok
set_option maxRecDepth 100000 in
set_option maxHeartbeats 4000000 in
theorem rseen_doc (p : ByteArray) (x : LDot) : Calls Tryz.prog 39 #[.pointer (some ⟨b, 0, none⟩), .string p, .agg #[.int .i64 x.who, .int .i64 x.n]] w (CheckPost w (.bool (st.ops.any (sawOp p x)))) := by
  obtain ⟨W0, hW0⟩ : ∃ W0, W0 = w.alloc (.cells #[.int .i64 x.who, .int .i64 x.n] 30) := ⟨_, rfl⟩
  have HB0 : Hid (Below w.heap.size w W0) := by rw [hW0]; exact (Below.refl _ _).alloc (Nat.le_refl _) _
  have HX : Hid (Blk W0 w.heap.size 30 #[.int .i64 x.who, .int .i64 x.n]) := by rw [hW0]; exact Blk.new w 30 #[.int .i64 x.who, .int .i64 x.n]
  have HSZ : Hid (W0.heap.size = w.heap.size + 1) := by rw [hW0]; exact World.size_alloc _ _
  have HD := Lib.hid (h.below HB0.out)
  have HYL := Lib.hid h.ys_len
  have HSM := Lib.hid h.same
  have HOK := Lib.hid ok
  have few := ok.few
  clear h ok
  go_enter Tryz.func39, Tryz.ntmps39
  go_wp2_with fail
  rw [← hW0]
  clear hW0
  go_loopw [7] (fun i wr => SawLoop W0 st.ops p x i wr) (fun i _ => st.ops.length - (intOf i).toNat)
  case atStart => exact ⟨0, by omega, rfl, Below.refl _ _, rfl⟩
  case round =>
    obtain ⟨k, hk, rfl, HBr, HN⟩ := hrel
    have c3 : wr.cell? ⟨b, 3, none⟩ = some (.slice D.a4 st.ops.length D.c4) := by rw [(HD.out.below HBr.out).blk.cell]; rfl
    by_cases hkn : k < st.ops.length
    · have hky : k < D.ys.length := by rw [HYL.out]; exact hkn
      have hops := (HD.out.below HBr.out).ops.reads
      rw [← HYL.out] at hops
      obtain ⟨ad, ha, hab, e0, e1, e2, e3, e4, e5⟩ := hops.op hky
      have hoy : D.ys[k].op = st.ops[k] := by
        have h2 : (D.ys.map OpAt.op)[k]? = st.ops[k]? := by rw [HSM.out]
        rw [List.getElem?_map, List.getElem?_eq_getElem hky, List.getElem?_eq_getElem hkn] at h2
        simpa using h2
      have hseat := ((HD.out.below HBr.out).seen _ (List.getElem_mem hky)).row
      have hgood := (op_ok (HOK.out.ops _ (List.getElem_mem hkn)).1).2.2.2.2.2.2.1
      have HST : Hid ((st.ops.take (k + 1)).any (sawOp p x) = sawOp p x st.ops[k]) := by
        show _ = _
        rw [List.take_succ_eq_append_getElem hkn, List.any_append, HN.out]; simp
      have HALL : Hid (sawOp p x st.ops[k] = true → st.ops.any (sawOp p x) = true) := fun hh => List.any_eq_true.2 ⟨_, List.getElem_mem hkn, hh⟩
      rw [hoy] at e0 e1 e2 e3 e4 e5 hseat
      generalize D.ys[k].at_ = ya at *
      generalize D.ys[k].cap = yc at *
      clear hoy hops
      generalize st.ops[k] = o at *
      obtain ⟨⟨who, n⟩, what, place, letter, seen⟩ := o
      simp only at e0 e1 e2 e3 e4 e5 hseat hgood
      rw [ha] at c3
      have k0 : (0 : Int) ≤ (k : Int) := by omega
      have k1 : (k : Int) < (st.ops.length : Int) := by omega
      have HBK : Hid (Blk (wr.alloc (.cells #[.int .i64 who, .int .i64 n, .int .i64 what, .string place, .int .i64 letter, .slice ya seen.length yc] 33)) wr.heap.size 33 _) := Blk.new wr 33 #[.int .i64 who, .int .i64 n, .int .i64 what, .string place, .int .i64 letter, .slice ya seen.length yc]
      have HBa := Lib.hid (HBr.out.alloc HBr.out.size (.cells #[.int .i64 who, .int .i64 n, .int .i64 what, .string place, .int .i64 letter, .slice ya seen.length yc] 33))
      have HIN := Lib.hid (fun W (hb : Below wr.heap.size wr W) => rin_any W ya yc seen x ((hseat.below hb).more hb.size) (by omega))
      have HWB : Hid (Below wr.heap.size wr (wr.alloc (.cells #[.int .i64 who, .int .i64 n, .int .i64 what, .string place, .int .i64 letter, .slice ya seen.length yc] 33))) := (Below.refl _ _).alloc (Nat.le_refl _) _
      have f1 : (wr.alloc (.cells #[.int .i64 who, .int .i64 n, .int .i64 what, .string place, .int .i64 letter, .slice ya seen.length yc] 33)).cell? ⟨wr.heap.size, 5, none⟩ = some (.slice ya seen.length yc) := by rw [HBK.out.cell]; rfl
      have x0 : (wr.alloc (.cells #[.int .i64 who, .int .i64 n, .int .i64 what, .string place, .int .i64 letter, .slice ya seen.length yc] 33)).cell? ⟨w.heap.size, 0, none⟩ = some (.int .i64 x.who) := by rw [((HX.out.below HBr.out (by have := HSZ.out; omega)).below HWB.out (by have := HBr.out.size; have := HSZ.out; omega)).cell]; rfl
      have x1 : (wr.alloc (.cells #[.int .i64 who, .int .i64 n, .int .i64 what, .string place, .int .i64 letter, .slice ya seen.length yc] 33)).cell? ⟨w.heap.size, 1, none⟩ = some (.int .i64 x.n) := by rw [((HX.out.below HBr.out (by have := HSZ.out; omega)).below HWB.out (by have := HBr.out.size; have := HSZ.out; omega)).cell]; rfl
      clear hseat
      go_wp2_with fail
      refine (HIN.out _ HWB.out).mono ?_
      rintro e w3 ⟨rfl, hb3⟩
      have g1 : w3.cell? ⟨wr.heap.size, 2, none⟩ = some (.int .i64 what) := by rw [(HBK.out.below hb3 (by simp)).cell]; rfl
      have g2 : w3.cell? ⟨wr.heap.size, 3, none⟩ = some (.string place) := by rw [(HBK.out.below hb3 (by simp)).cell]; rfl
      have HB3 := Lib.hid (HBa.out.trans (hb3.mono HBa.out.size))
      clear hb3 f1 x0 x1 HIN
      by_cases hw : what = 4
      · subst hw
        by_cases hp : place = p
        · subst hp
          have gp : (place.toList == place.toList) = true := by simp
          cases hin : inD seen x with
          | true =>
            have HA := Lib.hid (HALL.out (by unfold sawOp; simp [hin]))
            go_wp2_with fail
            go_ret
            exact ⟨by rw [HA.out]; rfl, HB0.out.trans (HB3.out.mono (by have := HSZ.out; omega))⟩
          | false =>
            have HF : Hid (_ = false) := HST.out.trans (by unfold sawOp; simp [hin])
            go_wp2_with fail
            go_roundw
            case rel => exact ⟨k + 1, by omega, by go_num, HB3, HF⟩
            case measure => simp [intOf]; omega
        · have gp : (place.toList == p.toList) = false := by rw [beq_eq_false_iff_ne]; exact fun h => hp (tl_inj h)
          have HF : Hid (_ = false) := HST.out.trans (by unfold sawOp; simp [hp])
          go_wp2_with fail
          go_roundw
          case rel => exact ⟨k + 1, by omega, by go_num, HB3, HF⟩
          case measure => simp [intOf]; omega
      · have gw : (what == 4) = false := by simpa using hw
        have HF : Hid (_ = false) := HST.out.trans (by unfold sawOp; simp [hw])
        go_wp2_with fail
        go_roundw
        case rel => exact ⟨k + 1, by omega, by go_num, HB3, HF⟩
        case measure => simp [intOf]; omega
    · have k1 : ¬ (k : Int) < (st.ops.length : Int) := by omega
      have HE : Hid (st.ops.any (sawOp p x) = false) := by
        have := HN.out
        rwa [List.take_of_length_le (by omega)] at this
      go_wp2_with fail
      go_ret
      exact ⟨by rw [HE.out]; rfl, HB0.out.trans (HBr.out.mono (by have := HSZ.out; omega))⟩
end
end Go.Proofs.YtgmdnmdniidngaaGreatDoor
/- The reference's document: its parts laid anew. Plain lemmas. Conditions: none. -/
namespace Go.Proofs.YtgmdnmdniidngaaGreatDoor
open Go.RowKit
set_option linter.unusedVariables false
namespace RDocIs
variable {w w' : World} {B : Nat} {S S' T : List Nat} {b : Nat} {st : LDoc} {D : RLay}
theorem setBook (h : RDocIs w B S b st D) (hS : ∀ g ∈ S, g ∈ S') (hO : ∀ g ∈ S', B ≤ g ∧ g < w.heap.size) {V : Option Addr} {c : Nat} {l : List LLeaf} (hV : Seat w B S' (D.turns b) 3 V l.length (lcells l)) (hc : l.length ≤ c ∧ c ≤ 9223372036854775807) :
    RDocIs (w.setCell ⟨b, 0, none⟩ (.slice V l.length c)) B S' b { st with book := l } { D with a1 := V, c1 := c } := by
  have ho : Only [b] w (w.setCell ⟨b, 0, none⟩ (.slice V l.length c)) := (Only.refl _ _).setCell (.inl (by simp)) _
  have hU : ∀ g ∈ [b], g ∈ D.turns b ∨ w.heap.size ≤ g := by simp [RLay.turns]
  refine ⟨h.blk.set_ 0 _, hV.turned ho hU, hc, (h.marks.turned ho hU).more hS (fun g hg => .inl hg), h.marksc, h.known.only ho (fun g hg hm => ?_), h.ops.only ho (fun g hg hm => ?_), h.same, fun y hy => ((h.seen y hy).turned ho hU).more hS (fun g hg => .inl hg), fun g hg => hS g (h.sub g hg), fun g hg => ⟨(hO g hg).1, Nat.lt_of_lt_of_le (hO g hg).2 ho.size⟩⟩
  · simp at hm; subst hm; exact h.b3 hg
  · simp at hm; subst hm; exact h.b4 hg
theorem setMarks (h : RDocIs w B S b st D) (hS : ∀ g ∈ S, g ∈ S') (hO : ∀ g ∈ S', B ≤ g ∧ g < w.heap.size) {V : Option Addr} {c : Nat} {l : List LMark} (hV : Seat w B S' (D.turns b) 3 V l.length (mcells l)) (hc : l.length ≤ c ∧ c ≤ 9223372036854775807) :
    RDocIs (w.setCell ⟨b, 1, none⟩ (.slice V l.length c)) B S' b { st with marks := l } { D with a2 := V, c2 := c } := by
  have ho : Only [b] w (w.setCell ⟨b, 1, none⟩ (.slice V l.length c)) := (Only.refl _ _).setCell (.inl (by simp)) _
  have hU : ∀ g ∈ [b], g ∈ D.turns b ∨ w.heap.size ≤ g := by simp [RLay.turns]
  refine ⟨h.blk.set_ 1 _, (h.book.turned ho hU).more hS (fun g hg => .inl hg), h.bookc, hV.turned ho hU, hc, h.known.only ho (fun g hg hm => ?_), h.ops.only ho (fun g hg hm => ?_), h.same, fun y hy => ((h.seen y hy).turned ho hU).more hS (fun g hg => .inl hg), fun g hg => hS g (h.sub g hg), fun g hg => ⟨(hO g hg).1, Nat.lt_of_lt_of_le (hO g hg).2 ho.size⟩⟩
  · simp at hm; subst hm; exact h.b3 hg
  · simp at hm; subst hm; exact h.b4 hg
theorem a3_blk (h : RDocIs w B S b st D) {g : Nat} (hg : D.a3 = some ⟨g, 0, none⟩) : ∃ cs, Blk w g 3 cs := by
  rcases h.known.2 with ⟨h2, _⟩ | ⟨g', cap, cur, he, _, hh, _⟩
  · injection h2 with h2; rw [hg] at h2; cases h2
  · injection he with he
    rw [hg] at he
    injection he with he
    injection he with he
    subst he
    exact ⟨cur, hh⟩
theorem a34 (h : RDocIs w B S b st D) {g : Nat} (hg : D.a3 = some ⟨g, 0, none⟩) : g ∉ ob D.a4 := by
  obtain ⟨cs, hh⟩ := h.a3_blk hg
  exact h.ops.blk_ne hh (by decide)
theorem setKnown (h : RDocIs w B S b st D) {g k : Nat} (hg : D.a3 = some ⟨g, 0, none⟩) (hk : k < st.known.length) (n : Int) :
    RDocIs (w.setCell ⟨g, k, none⟩ (.int .i64 n)) B S b { st with known := st.known.set k n } D := by
  have ho : Only [g] w (w.setCell ⟨g, k, none⟩ (.int .i64 n)) := (Only.refl _ _).setCell (.inl (by simp)) _
  have hgT : g ∈ D.turns b := by unfold RLay.turns; rw [hg]; simp [ob]
  have hU : ∀ x ∈ [g], x ∈ D.turns b ∨ w.heap.size ≤ x := by intro x hx; simp at hx; subst hx; exact .inl hgT
  refine ⟨?_, h.book.turned ho hU, h.bookc, h.marks.turned ho hU, h.marksc, ?_, h.ops.only ho (fun x hx hm => ?_), h.same, fun y hy => (h.seen y hy).turned ho hU, h.sub, fun x hx => ⟨(h.own x hx).1, Nat.lt_of_lt_of_le (h.own x hx).2 ho.size⟩⟩
  · have : D.cells { st with known := st.known.set k n } = D.cells st := by unfold RLay.cells; simp
    rw [this]
    exact ho.blk h.blk (by simp; intro e; exact h.b3 (by rw [hg]; simp [ob, e]))
  · have hk2 := h.known
    rw [hg] at hk2
    have := hk2.store hk (.int .i64 n)
    rw [ints_set] at this
    rw [hg]
    simpa using this
  · simp at hm; subst hm; exact h.a34 hg hx
theorem addOp (h : RDocIs w B S b st D) {y : OpAt} (hy : Seat w B S (D.turns b) 2 y.at_ y.op.seen.length (dcells y.op.seen)) {V : Option Addr} {c : Nat} {w1 : World}
    (hV : Own w1 B 33 6 V (st.ops.length + 1) c (ocells D.ys ++ y.cells)) (ho1 : Only (ob D.a4) w w1) (hg : ∀ g ∈ ob V, g ∈ ob D.a4 ∨ g = w.heap.size) :
    RDocIs (w1.setCell ⟨b, 3, none⟩ (.slice V (st.ops.length + 1) c)) B (ob V ++ S) b { st with ops := st.ops ++ [y.op] } { D with a4 := V, c4 := c, ys := D.ys ++ [y] } := by
  have ho2 : Only [b] w1 (w1.setCell ⟨b, 3, none⟩ (.slice V (st.ops.length + 1) c)) := (Only.refl _ _).setCell (.inl (by simp)) _
  have hb1 := ho1.blk h.blk h.b4
  have ho : Only (ob D.a4 ++ [b]) w (w1.setCell ⟨b, 3, none⟩ (.slice V (st.ops.length + 1) c)) := (ho1.mono (by intro i hi; simp [hi])).trans (ho2.mono (by intro i hi; simp at hi; simp [hi]))
  have hU : ∀ g ∈ ob D.a4 ++ [b], g ∈ D.turns b ∨ w.heap.size ≤ g := by
    intro g hg
    unfold RLay.turns
    rcases List.mem_append.1 hg with h1 | h1
    · exact .inl (by simp [h1])
    · simp at h1; subst h1; exact .inl (by simp)
  have e : (st.ops ++ [y.op]).length = st.ops.length + 1 := by simp
  have hT : ∀ g ∈ RLay.turns { D with a4 := V, c4 := c, ys := D.ys ++ [y] } b, g ∈ D.turns b ∨ w.heap.size ≤ g := by
    intro g hm
    unfold RLay.turns at hm ⊢
    simp only [List.mem_cons, List.mem_append] at hm ⊢
    rcases hm with h1 | h1 | h1
    · exact .inl (.inl h1)
    · exact .inl (.inr (.inl h1))
    · rcases hg g h1 with h2 | h2
      · exact .inl (.inr (.inr h2))
      · exact .inr (by omega)
  have hS : ∀ g ∈ S, g ∈ ob V ++ S := fun g hg => by simp [hg]
  have key : ∀ {n size : Nat} {A : Option Addr} {xs : List Value}, Seat w B S (D.turns b) size A n xs → Seat (w1.setCell ⟨b, 3, none⟩ (.slice V (st.ops.length + 1) c)) B (ob V ++ S) (RLay.turns { D with a4 := V, c4 := c, ys := D.ys ++ [y] } b) size A n xs := fun {n size A xs} hh =>
    ⟨(hh.turned ho hU).row, (hh.more hS hT).in_, (hh.more hS hT).out⟩
  refine ⟨?_, key h.book, h.bookc, key h.marks, h.marksc, ?_, ?_, ?_, ?_, ?_, ?_⟩
  · have := hb1.set_ 3 (.slice V (st.ops.length + 1) c)
    unfold RLay.cells
    simp only [e]
    exact this
  · refine h.known.only ho (fun g hg hm => ?_)
    rcases List.mem_append.1 hm with h1 | h1
    · obtain ⟨g', hg'⟩ : ∃ g', D.a3 = some ⟨g', 0, none⟩ := by
        rcases h.known.2 with ⟨h2, _⟩ | ⟨g', cap, cur, he, _⟩
        · injection h2 with h2; rw [h2] at hg; simp [ob] at hg
        · injection he with he; exact ⟨g', he⟩
      rw [hg'] at hg
      simp [ob] at hg
      subst hg
      exact h.a34 hg' h1
    · simp at h1; subst h1; exact h.b3 hg
  · simp only [e]
    have : ocells (D.ys ++ [y]) = ocells D.ys ++ y.cells := by simp [ocells]
    rw [this]
    exact hV.only ho2 (fun g hg hm => hV.blk_ne hb1 (by decide) (by simp at hm; exact hm ▸ hg))
  · simp [h.same]
  · intro z hz
    rcases List.mem_append.1 hz with hz | hz
    · exact key (h.seen z hz)
    · simp at hz; subst hz
      exact key hy
  · intro g hg'
    unfold RLay.turns at hg'
    simp only [List.mem_cons, List.mem_append] at hg' ⊢
    rcases hg' with h1 | h1 | h1
    · exact .inr (h.sub g (by simp [RLay.turns, h1]))
    · exact .inr (h.sub g (by simp [RLay.turns, h1]))
    · exact .inl h1
  · intro g hg'
    rcases List.mem_append.1 hg' with h1 | h1
    · exact ⟨(hV.lt g h1).1, Nat.lt_of_lt_of_le (hV.lt g h1).2 ho2.size⟩
    · exact ⟨(h.own g h1).1, Nat.lt_of_lt_of_le (h.own g h1).2 ho.size⟩
end RDocIs
theorem RDocIs.congr {w : World} {B : Nat} {S : List Nat} {b : Nat} {st s2 : LDoc} {D : RLay} (h : RDocIs w B S b st D) (e1 : s2.book = st.book) (e2 : s2.marks = st.marks) (e3 : s2.known = st.known) (e4 : s2.ops = st.ops) : RDocIs w B S b s2 D := by
  have hc : D.cells s2 = D.cells st := by unfold RLay.cells; rw [e1, e2, e3, e4]
  exact ⟨by rw [hc]; exact h.blk, by rw [e1]; exact h.book, by rw [e1]; exact h.bookc, by rw [e2]; exact h.marks, by rw [e2]; exact h.marksc, by rw [e3]; exact h.known, by rw [e4]; exact h.ops, by rw [e4]; exact h.same, h.seen, h.sub, h.own⟩
theorem far_drew2 {w : World} {p q : Addr} {u : Value} {x : Option Value} (hc : w.cell? q = x) (h : p.block ≠ q.block) : (w.setCell p u).drew.cell? q = x := by
  rw [World.cell?_drew, World.cell?_setCell_other _ _ _ _ (fun e => h (by rw [e]))]; exact hc
/-- An op more, at the end of a step: all that turned was the document's. -/
theorem rapply_close {w W7 w8 : World} {B : Nat} {S S' : List Nat} {b : Nat} {st s3 : LDoc} {D D3 : RLay} {o : LOp} {A V : Option Addr} {c cV : Nat} {cs : Array Value}
    (h : RDocIs w B S b st D) (ho : Only (D.turns b) w W7) (hT : D3.turns b = D.turns b) (hd : RDocIs W7 B S' b s3 D3) (hS : ∀ g ∈ S', g ∈ S ∨ w.heap.size ≤ g) (hy : Seat w B S (D.turns b) 2 A o.seen.length (dcells o.seen)) (hSS : ∀ g ∈ S, g ∈ S')
    (hV : Own w8 B 33 6 V (s3.ops.length + 1) cV (ocells D3.ys ++ OpAt.cells ⟨o, A, c⟩)) (hL : Only (ob D3.a4) (W7.drew.alloc (.cells cs 33)) w8) (hg : ∀ g ∈ ob V, g ∈ ob D3.a4 ∨ g = (W7.drew.alloc (.cells cs 33)).heap.size) :
    RDocTo w B S b D { s3 with ops := s3.ops ++ [o] } (w8.setCell ⟨b, 3, none⟩ (.slice V (s3.ops.length + 1) cV)) := by
  have hb1 : Below W7.heap.size W7 (W7.drew.alloc (.cells cs 33)) := ((Below.refl _ _).drew).alloc (Nat.le_refl _) _
  have ho1 : Only (D.turns b) w (W7.drew.alloc (.cells cs 33)) := ho.trans (Only.of_below hb1)
  have hd1 := hd.below hb1
  generalize W7.drew.alloc (.cells cs 33) = W8 at *
  have hy2 : Seat W8 B S' (D3.turns b) 2 A o.seen.length (dcells o.seen) := by
    have := (hy.turned ho1 (fun g hg => .inl hg)).more hSS (T' := D3.turns b) (fun g hg => .inl (by rw [← hT]; exact hg))
    exact this
  have hfin := hd1.addOp (y := ⟨o, A, c⟩) hy2 hV hL hg
  have h78 := ho1.size
  have hsub : ∀ g ∈ ob D3.a4, g ∈ D.turns b := fun g hg => by rw [← hT]; unfold RLay.turns; simp [hg]
  refine ⟨_, _, hfin, (ho1.trans (hL.mono (fun i hi => .inl (hsub i hi)))).trans ((Only.refl _ _).setCell (.inl (by simp [RLay.turns])) _), fun g hg' => ?_⟩
  rcases List.mem_append.1 hg' with h1 | h1
  · rcases hg g h1 with h2 | h2
    · exact .inl (h.sub g (hsub g h2))
    · exact .inr (by omega)
  · exact hS g h1
/-- What the reference's step on the book and the marks gives. -/
structure RTurn (w : World) (B : Nat) (S : List Nat) (b : Nat) (st : LDoc) (D : RLay) (o : LOp) (V1 : Option Addr) (d1 : Nat) (l1 : List LLeaf) (V2 : Option Addr) (d2 : Nat) (l2 : List LMark) (S' : List Nat) (wx : World) : Prop where
  ok : st.turnE o = 0 → l1 = (st.turn o).book ∧ l2 = (st.turn o).marks
  below : Below w.heap.size w wx
  sub : ∀ g ∈ S, g ∈ S'
  new_ : ∀ g ∈ S', g ∈ S ∨ w.heap.size ≤ g
  own : ∀ g ∈ S', B ≤ g ∧ g < wx.heap.size
  book : Seat wx B S' (D.turns b) 3 V1 l1.length (lcells l1)
  bookc : l1.length ≤ d1 ∧ d1 ≤ 9223372036854775807
  marks : Seat wx B S' (D.turns b) 3 V2 l2.length (mcells l2)
  marksc : l2.length ≤ d2 ∧ d2 ≤ 9223372036854775807
namespace RTurn
variable {w wx : World} {B : Nat} {S S' : List Nat} {b : Nat} {st : LDoc} {D : RLay} {o : LOp}
theorem stays (h : RDocIs w B S b st D) (hb : Below w.heap.size w wx) (hm : st.turnE o = 0 → st.book = (st.turn o).book ∧ st.marks = (st.turn o).marks) : RTurn w B S b st D o D.a1 D.c1 st.book D.a2 D.c2 st.marks S wx :=
  let h' := h.below hb
  ⟨hm, hb, fun g hg => hg, fun g hg => .inl hg, h'.own, h'.book, h'.bookc, h'.marks, h'.marksc⟩
theorem book_ (h : RDocIs w B S b st D) (hb : Below w.heap.size w wx) {V : Option Addr} {c : Nat} {l : List LLeaf} (hV : Own wx w.heap.size 95 3 V l.length c (lcells l)) (hB : B ≤ w.heap.size) (hm : st.turnE o = 0 → l = (st.turn o).book ∧ st.marks = (st.turn o).marks) :
    RTurn w B S b st D o V c l D.a2 D.c2 st.marks (ob V ++ S) wx := by
  have h' := h.below hb
  have hS : ∀ g ∈ S, g ∈ ob V ++ S := fun g hg => by simp [hg]
  refine ⟨hm, hb, hS, fun g hg => ?_, fun g hg => ?_, Seat.of_own hV (fun g hg => by simp [hg]) (fun g hg => (h.own g (h.sub g hg)).2), ⟨hV.cap_le, by have := hV.cap_max; unfold maxLen at this; omega⟩, h'.marks.more hS (fun g hg => .inl hg), h'.marksc⟩
  · rcases List.mem_append.1 hg with h1 | h1
    · exact .inr (hV.lt g h1).1
    · exact .inl h1
  · rcases List.mem_append.1 hg with h1 | h1
    · exact ⟨by have := (hV.lt g h1).1; omega, (hV.lt g h1).2⟩
    · exact h'.own g h1
theorem marks_ (h : RDocIs w B S b st D) (hb : Below w.heap.size w wx) {V : Option Addr} {c : Nat} {l : List LMark} (hV : Own wx w.heap.size 85 3 V l.length c (mcells l)) (hB : B ≤ w.heap.size) (hm : st.turnE o = 0 → st.book = (st.turn o).book ∧ l = (st.turn o).marks) :
    RTurn w B S b st D o D.a1 D.c1 st.book V c l (ob V ++ S) wx := by
  have h' := h.below hb
  have hS : ∀ g ∈ S, g ∈ ob V ++ S := fun g hg => by simp [hg]
  refine ⟨hm, hb, hS, fun g hg => ?_, fun g hg => ?_, h'.book.more hS (fun g hg => .inl hg), h'.bookc, Seat.of_own hV (fun g hg => by simp [hg]) (fun g hg => (h.own g (h.sub g hg)).2), ⟨hV.cap_le, by have := hV.cap_max; unfold maxLen at this; omega⟩⟩
  · rcases List.mem_append.1 hg with h1 | h1
    · exact .inr (hV.lt g h1).1
    · exact .inl h1
  · rcases List.mem_append.1 hg with h1 | h1
    · exact ⟨by have := (hV.lt g h1).1; omega, (hV.lt g h1).2⟩
    · exact h'.own g h1
end RTurn
end Go.Proofs.YtgmdnmdniidngaaGreatDoor

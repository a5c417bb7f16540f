/- leafref1.many, walked: to count letter by letter is to reckon with numbers. Conditions: the texts are places, or empty. -/
import Derived.Deep.CutBlock
import Derived.Test.YtgmdnmdniidngaaDoorBRow
import Derived.Test.YtgmdnmdniidngaaDoorRefMay
namespace Go.Proofs.YtgmdnmdniidngaaDoor
open Go.RowKit
set_option linter.unusedVariables false
/-- How many texts of so many letters that begin so fit. -/
def rcount (a b : ByteArray) (n r v : Nat) : Nat := cntN (numb a n) (hiOf b.toList n) ((v + 1) * 26 ^ r) - cntN (numb a n) (hiOf b.toList n) (v * 26 ^ r)
section
variable {a b : ByteArray} {n : Nat}
theorem rcount_le (r v : Nat) : cntN (numb a n) (hiOf b.toList n) (v * 26 ^ r) + rcount a b n r v = cntN (numb a n) (hiOf b.toList n) ((v + 1) * 26 ^ r) := by
  have := cnt_mono (low := numb a n) (hi := hiOf b.toList n) (show v * 26 ^ r ≤ (v + 1) * 26 ^ r from Nat.mul_le_mul_right _ (Nat.le_succ v))
  unfold rcount; omega
theorem cnt_le (low : Nat) (hi : Option Nat) : ∀ x, cntN low hi x ≤ x
  | 0 => Nat.le_refl _
  | x + 1 => by
    have := cnt_le low hi x
    rw [cntN]
    split <;> omega
theorem rcount_none (la : LowL a.toList) (lb : LowL b.toList) {s : List UInt8} (hs : LowL s) {r : Nat} (hn : s.length + r = n) (h : mayB s n a.toList b.toList = false) : rcount a b n r (numF s s.length) = 0 := by
  have h1 := may_not hs la lb hn h
  rw [← numb_eq] at h1
  have h2 := cnt_none (low := numb a n) (hi := hiOf b.toList n) (p := numF s s.length * 26 ^ r) (26 ^ r) (fun x x1 x2 => h1 x x1 (by rw [Nat.add_mul, Nat.one_mul]; exact x2))
  unfold rcount
  rw [Nat.add_mul, Nat.one_mul, h2]; omega
theorem rcount_all (la : LowL a.toList) (lb : LowL b.toList) {s : List UInt8} (hs : LowL s) {r : Nat} (hn : s.length + (r + 1) = n) (h : allB s n a.toList b.toList = true) : rcount a b n (r + 1) (numF s s.length) = 25 * 26 ^ r := by
  have h1 := all_fit hs la lb hn h (by omega)
  rw [← numb_eq] at h1
  have e : 26 ^ (r + 1) = 26 * 26 ^ r := by rw [Nat.pow_succ, Nat.mul_comm]
  have h2 := cnt_all (low := numb a n) (hi := hiOf b.toList n) (p := numF s s.length * 26 ^ (r + 1)) (by rw [Nat.pow_succ, ← Nat.mul_assoc]; exact Nat.mul_mod_left _ _) (26 ^ r) (fun x x1 x2 => h1 x x1 (by rw [Nat.add_mul, Nat.one_mul, e]; rw [e] at x2; exact x2))
  unfold rcount
  rw [Nat.add_mul, Nat.one_mul, show numF s s.length * 26 ^ (r + 1) + 26 ^ (r + 1) = numF s s.length * 26 ^ (r + 1) + 26 * 26 ^ r by rw [← e], h2]; omega
theorem rcount_one (la : LowL a.toList) (lb : LowL b.toList) {s : List UInt8} (hs : LowL s) (hn : s.length = n) : rcount a b n 0 (numF s s.length) = if okN (numb a n) (hiOf b.toList n) (numF s s.length) = true then 1 else 0 := by
  unfold rcount
  simp only [Nat.pow_zero, Nat.mul_one]
  rw [cntN]
  omega
/-- The letters up to the j-th. -/
theorem rcount_sum (r v j : Nat) : cntN (numb a n) (hiOf b.toList n) ((26 * v + j) * 26 ^ r) + rcount a b n r (26 * v + j) = cntN (numb a n) (hiOf b.toList n) ((26 * v + (j + 1)) * 26 ^ r) := by
  have := rcount_le (a := a) (b := b) (n := n) r (26 * v + j)
  rw [show 26 * v + (j + 1) = 26 * v + j + 1 from rfl]
  exact this
theorem span_eq (r v : Nat) : v * 26 ^ (r + 1) = (26 * v + 0) * 26 ^ r ∧ (v + 1) * 26 ^ (r + 1) = (26 * v + 26) * 26 ^ r := by
  rw [Nat.pow_succ]
  constructor
  · rw [Nat.add_zero, Nat.mul_comm 26 v, Nat.mul_assoc, Nat.mul_comm 26]
  · rw [show 26 * v + 26 = 26 * (v + 1) from by omega, Nat.mul_comm 26 (v + 1), Nat.mul_assoc, Nat.mul_comm 26]
end
theorem snoc_num (s : List UInt8) (c : UInt8) : numF (s ++ [c]) (s ++ [c]).length = 26 * numF s s.length + (c.toNat - 97) := by
  have := numF_snoc s c
  rw [List.length_append, List.length_cons, List.length_nil]
  rw [this]; omega
theorem last_mod {s : List UInt8} (hs : LowL s) {x : UInt8} {t : List UInt8} (h : s = t ++ [x]) : (numF s s.length % 26 ≠ 0 ↔ x.toNat ≠ 97) := by
  subst h
  rw [snoc_num]
  have := hs x (by simp)
  omega
theorem pow_le (r : Nat) (h : r ≤ 11) : 26 ^ r ≤ 3670344486987776 := pow26_le h
def PadCut (w : World) (s : ByteArray) (n : Nat) (v10 v11 : Value) (wx : World) : Prop :=
  ∃ (lo hi : ByteArray), v10 = .string lo ∧ v11 = .string hi ∧ Hid (lo.toList = padL 97 s.toList n) ∧ Hid (hi.toList = padL 122 s.toList n) ∧ Hid (wx = w)
def MulLoop (w : World) (z r : Nat) (v13 v14 : Value) (wr : World) : Prop :=
  ∃ j : Nat, j ≤ r ∧ v13 = .int .i64 ((25 * 26 ^ j : Nat) : Int) ∧ v14 = .int .i64 ((z + 1 + j : Nat) : Int) ∧ Hid (wr = w)
def SumLoop (w : World) (low : Nat) (hi : Option Nat) (r v : Nat) (v15 v16 : Value) (wr : World) : Prop :=
  ∃ (j q : Nat), j ≤ 26 ∧ v15 = .int .i64 (q : Int) ∧ v16 = .int .i64 ((97 + j : Nat) : Int) ∧ Hid (cntN low hi ((26 * v + 0) * 26 ^ r) + q = cntN low hi ((26 * v + j) * 26 ^ r)) ∧ Hid (Below w.heap.size w wr)
theorem rmay_any' (w : World) (s a b : ByteArray) (n : Nat) (h : s.size ≤ n) (hn : n ≤ 11) : Calls Tryd.prog 59 #[.string s, .int .i64 (n : Int), .string a, .string b] w (fun e w' => e = .returned (.bool (mayB s.toList n a.toList b.toList)) ∧ w' = w) := by
  have := rmay_any w s a b (n - s.size) (by omega)
  rwa [show s.size + (n - s.size) = n by omega] at this
set_option maxRecDepth 100000 in
set_option maxHeartbeats 2000000 in
/-- All letters are there. -/
theorem rmany_last (w : World) (a b s : ByteArray) (la : Letters a) (lb : Letters b) (sa : a.size ≤ 12) (sb : b.size ≤ 12) (hs : LowL s.toList) (h1 : 1 ≤ s.size) (h11 : s.size ≤ 11) :
    Calls Tryd.prog 44 #[.string s, .int .i64 (s.size : Int), .string a, .string b] w (CheckPost w (.int .i64 (rcount a b s.size 0 (numF s.toList s.size) : Int))) := by
  have LA := low_of la
  have LB := low_of lb
  have hl := toList_len s
  have HM := Lib.hid (rmay_any' w s a b s.size (Nat.le_refl _) h11)
  have HF := Lib.hid (rfits_any w s a b (by omega) (by omega))
  have hone := rcount_one (a := a) (b := b) (n := s.size) LA LB hs hl
  rw [hl] at hone
  have hnone := fun h => rcount_none (a := a) (b := b) (n := s.size) LA LB hs (r := 0) (by rw [hl]; rfl) h
  have hfitN := fun h => fit_num hs LA LB h
  rw [hl, ← numb_eq a] at hfitN
  rw [hl] at hnone
  obtain ⟨m, hm⟩ : ∃ m, s.size = m + 1 := ⟨s.size - 1, by omega⟩
  have hx : m < s.size := by omega
  have hmod : numF s.toList s.size % 26 ≠ 0 ↔ s[m].toNat ≠ 97 := by
    have h2 : s.toList = s.toList.take m ++ [s.toList[m]'(by omega)] := by
      have h3 := List.take_succ_eq_append_getElem (l := s.toList) (i := m) (by omega)
      rw [← h3, List.take_of_length_le (by omega)]
    have h4 : numF s.toList s.toList.length % 26 ≠ 0 ↔ (s.toList[m]'(by omega)).toNat ≠ 97 := last_mod hs h2
    have e2 : s.toList[m]'(by omega) = s[m] := by simp [ByteArray.toList_eq]; rfl
    have e3 : numF s.toList s.toList.length = numF s.toList s.size := by rw [hl]
    rw [e3, e2] at h4
    exact h4
  obtain ⟨bm, hbm⟩ : ∃ x, mayB s.toList s.size a.toList b.toList = x := ⟨_, rfl⟩
  obtain ⟨bf, hbf⟩ : ∃ x, fitB s.toList a.toList b.toList = x := ⟨_, rfl⟩
  have hz : rcount a b s.size 0 (numF s.toList s.size) = if bm = true ∧ bf = true ∧ s[m].toNat ≠ 97 then 1 else 0 := by
    by_cases h5 : s[m].toNat ≠ 97
    · cases hb : bm with
      | false => rw [hnone (by rw [hbm, hb])]; simp
      | true =>
        rw [hone, ← hfitN (hmod.2 h5), hbf]
        simp [h5]
    · rw [if_neg (fun h => h5 h.2.2), hone, if_neg]
      rw [okN_iff]
      rintro ⟨_, _, h6⟩
      exact h5 (hmod.1 h6)
  have HZ := Lib.hid hz
  rw [hbm] at HM
  rw [hbf] at HF
  have q1 : IntKind.i64.wrap ((s.size : Int) - 1) = (m : Int) := by rw [IntWalk.i64_in _ (by omega)]; omega
  have m0 : (0 : Int) ≤ (m : Int) := by omega
  have m1 : (m : Int) < (s.size : Int) := by omega
  have m2 : (m : Int).toNat = m := by omega
  have HX := Lib.hid hm
  clear hz hone hnone hfitN hmod hl LA LB la lb hs hbm hbf hm
  cases bm with
  | false =>
    go_enter Tryd.func44, Tryd.ntmps44
    go_wp2_with fail
    refine HM.out.mono ?_
    rintro e w1 ⟨rfl, hw⟩
    obtain rfl := hw.symm
    go_wp2_with fail
    go_ret
    exact ⟨by rw [HZ.out]; rfl, Below.refl _ _⟩
  | true =>
    cases bf with
    | false =>
      go_enter Tryd.func44, Tryd.ntmps44
      go_wp2_with fail
      refine HM.out.mono ?_
      rintro e w1 ⟨rfl, hw⟩
      obtain rfl := hw.symm
      go_wp2_with fail
      refine HF.out.mono ?_
      rintro e w2 ⟨rfl, hw⟩
      obtain rfl := hw.symm
      go_wp2_with fail
      go_ret
      exact ⟨by rw [HZ.out]; rfl, Below.refl _ _⟩
    | true =>
      by_cases h5 : s[m].toNat = 97
      · have HZ2 : Hid (rcount a b s.size 0 (numF s.toList s.size) = 0) := by show _ = _; rw [HZ.out, if_neg (fun h => h.2.2 h5)]
        have g1 : ((s[m].toNat : Int) != 97) = false := by rw [h5]; rfl
        have g2 : ((s[m].toNat : Int) == 97) = true := by rw [h5]; rfl
        clear h5 HZ
        go_enter Tryd.func44, Tryd.ntmps44
        go_wp2_with fail
        refine HM.out.mono ?_
        rintro e w1 ⟨rfl, hw⟩
        obtain rfl := hw.symm
        go_wp2_with fail
        refine HF.out.mono ?_
        rintro e w2 ⟨rfl, hw⟩
        obtain rfl := hw.symm
        go_wp2_with fail
        go_ret
        exact ⟨by rw [HZ2.out]; rfl, Below.refl _ _⟩
      · have HZ2 : Hid (rcount a b s.size 0 (numF s.toList s.size) = 1) := by show _ = _; rw [HZ.out, if_pos ⟨rfl, rfl, h5⟩]
        have g1 : ((s[m].toNat : Int) != 97) = true := by rw [bne_iff_ne]; omega
        have g2 : ((s[m].toNat : Int) == 97) = false := by rw [beq_eq_false_iff_ne]; omega
        clear h5 HZ
        go_enter Tryd.func44, Tryd.ntmps44
        go_wp2_with fail
        refine HM.out.mono ?_
        rintro e w1 ⟨rfl, hw⟩
        obtain rfl := hw.symm
        go_wp2_with fail
        refine HF.out.mono ?_
        rintro e w2 ⟨rfl, hw⟩
        obtain rfl := hw.symm
        go_wp2_with fail
        go_ret
        exact ⟨by rw [HZ2.out]; rfl, Below.refl _ _⟩
end Go.Proofs.YtgmdnmdniidngaaDoor

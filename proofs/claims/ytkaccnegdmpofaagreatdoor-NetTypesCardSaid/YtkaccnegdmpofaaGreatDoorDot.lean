/- 4 texts in one: each says ahead of itself what is proved, and its conditions. -/
import Derived.Deep.DeepCutAuto
import Derived.Deep.OwnRows
import Derived.Deep.RegionHeld3
import Derived.Laws.BytesArg
import Derived.Laws.IdiomStrings
import Derived.Test.YtkaccnegdmpofaaGreatDoorMem
/- Places as plain data: what package place reckons. Conditions: none. -/
namespace Go.Proofs.YtkaccnegdmpofaaGreatDoor
open Go.RowKit
set_option linter.unusedVariables false

/-- Byte i of a text; 0 behind its end. -/
def byteAt (s : ByteArray) (i : Nat) : Nat := if h : i < s.size then s[i].toNat else 0
theorem byteAt_in {s : ByteArray} {i : Nat} (h : i < s.size) : byteAt s i = s[i].toNat := dif_pos h
theorem byteAt_lt (s : ByteArray) (i : Nat) : byteAt s i < 256 := by
  unfold byteAt
  split
  · exact UInt8.toNat_lt _
  · omega
/-- All bytes are letters from a to z. -/
def Letters (s : ByteArray) : Prop := ∀ i, i < s.size → 97 ≤ byteAt s i ∧ byteAt s i ≤ 122
instance (s : ByteArray) : Decidable (Letters s) := inferInstanceAs (Decidable (∀ i, i < s.size → 97 ≤ byteAt s i ∧ byteAt s i ≤ 122))
/-- The end of a place is right. -/
def EndOk (s : ByteArray) : Prop := 2 ≤ s.size ∧ 98 ≤ byteAt s (s.size - 1) ∧ byteAt s (s.size - 1) ≤ 105 ∧ byteAt s (s.size - 2) ≠ 97
instance (s : ByteArray) : Decidable (EndOk s) := inferInstanceAs (Decidable (_ ∧ _ ∧ _ ∧ _))
/-- What is wrong with a place. -/
def placeErr (s : ByteArray) : Int := if 12 < s.size then 4 else if Letters s ∧ EndOk s then 0 else 2
def errV (e : Int) : Value := if e = 0 then .nilIface else .iface 97 (.int .i64 e)
theorem errV_ne {e : Int} (h : e ≠ 0) : errV e = .iface 97 (.int .i64 e) := if_neg h

/-- The digit of a text at i, to the base 26. -/
def dig (s : ByteArray) (i : Nat) : Nat := if i < s.size then byteAt s i - 97 else 0
/-- The number of its first n letters. -/
def numb (s : ByteArray) : Nat → Nat
  | 0 => 0
  | n + 1 => numb s n * 26 + dig s n
theorem dig_lt {s : ByteArray} (h : Letters s) (i : Nat) : dig s i < 26 := by
  unfold dig
  split
  · rename_i hi; have := h i hi; omega
  · omega
theorem numb_lt {s : ByteArray} (h : Letters s) (n : Nat) : numb s n < 26 ^ n := by
  induction n with
  | zero => simp [numb]
  | succ n ih =>
    have hd := dig_lt h n
    simp only [numb, Nat.pow_succ]
    omega
/-- Powers of 26, written out. -/
def pow26 : Nat → Nat := fun n => 26 ^ n
theorem pow26_le {n : Nat} (h : n ≤ 11) : 26 ^ n ≤ 3670344486987776 := by
  calc 26 ^ n ≤ 26 ^ 11 := Nat.pow_le_pow_right (by decide) h
    _ = 3670344486987776 := by decide
/-- n letters of a number. -/
def lets : Nat → Nat → List UInt8
  | _, 0 => []
  | x, n + 1 => lets (x / 26) n ++ [UInt8.ofNat (97 + x % 26)]
theorem lets_len (x n : Nat) : (lets x n).length = n := by
  induction n generalizing x with
  | zero => rfl
  | succ n ih => simp [lets, ih]
/-- How many numbers from 1 to n are no multiples of 26. -/
def upTo (n : Nat) : Nat := n - n / 26
/-- The upper end, for n letters. -/
def high (b : ByteArray) (n : Nat) : Int := if b.size = 0 then (26 ^ n : Nat) - 1 else (numb b n : Int) - 1
/-- How many there are, of n letters. -/
def many (a b : ByteArray) (n : Nat) : Int := if high b n < numb a n then 0 else (upTo (high b n).toNat : Int) - upTo (numb a n)
def kth (a b : ByteArray) (n : Nat) : Nat := upTo (numb a n) + ((many a b n).toNat - 1) / 4
def val (a b : ByteArray) (n : Nat) : Nat := kth a b n + kth a b n / 25 + 1
/-- From n letters on: the text at a quarter; empty: none. -/
def quarterFrom (a b : ByteArray) : Nat → Nat → List UInt8
  | _, 0 => []
  | n, fuel + 1 => if many a b n < 1 then quarterFrom a b (n + 1) fuel else lets (val a b n) n
def quarter (a b : ByteArray) : List UInt8 := quarterFrom a b 1 11
/-- What is wrong with two. -/
def readyErr (a b : ByteArray) : Int :=
  if a.size ≠ 0 ∧ placeErr a ≠ 0 then placeErr a
  else if b.size ≠ 0 ∧ placeErr b ≠ 0 then placeErr b
  else if a.size ≠ 0 ∧ b.size ≠ 0 ∧ Op.bytesLess a.toList b.toList = false then 3 else 0
end Go.Proofs.YtkaccnegdmpofaaGreatDoor
/- Package place, walked: the author, the check; small words for texts. Conditions: stated with each. -/
namespace Go.Proofs.YtkaccnegdmpofaaGreatDoor
open Go.RowKit
set_option linter.unusedVariables false

theorem author_any (w : World) (n : Int) :
    Calls Tryz.prog 118 #[.int .i64 n] w fun e w' => e = .returned (.bool (decide (1 ≤ n) && decide (n ≤ 8))) ∧ w' = w := by
  by_cases h : 1 ≤ n
  · go_enter Tryz.func118, Tryz.ntmps118
    go_wp2
    go_ret
    exact ⟨by simp [h], rfl⟩
  · go_enter Tryz.func118, Tryz.ntmps118
    go_wp2
    go_ret
    have hd : (decide (1 ≤ n) && decide (n ≤ 8)) = false := by simp; omega
    exact ⟨by rw [hd]; rfl, rfl⟩
/-- The string of some bytes. -/
def strOf (l : List UInt8) : ByteArray := ⟨l.toArray⟩
theorem strOf_size (l : List UInt8) : (strOf l).size = l.length := by simp [strOf, ByteArray.size]
def u8s (l : List UInt8) : List Value := l.map fun c => .int .u8 (c.toNat : Int)
/-- What the check turns into bytes. -/
theorem conv_bytes (w : World) (s : ByteArray) : ∃ C cs fr, (convert 9 154 (.string s)).run Tryz.prog w = .ok (.slice (some ⟨w.heap.size, 0, none⟩) s.size C) (w.drew.alloc (.cells cs 5 fr)) ∧
    ∀ i, i < s.size → (w.alloc (.cells cs 5 fr)).cell? ⟨w.heap.size, i, none⟩ = some (.int .u8 (byteAt s i)) := by
  refine ⟨_, _, _, run_bytes_of_string (P := Tryz.prog) w 9 154 5 s Tryz.underlying9 Tryz.underlying154 Tryz.underlying5, fun i hi => ?_⟩
  have h : (w.alloc (.cells (bytesRow s (grownCap w s.size 0 5)) 5 ((bytesRow s (grownCap w s.size 0 5)).size, (bytesRow s (grownCap w s.size 0 5)).size + 1))).heap[w.heap.size]? = some (.cells (bytesRow s (grownCap w s.size 0 5)) 5 ((bytesRow s (grownCap w s.size 0 5)).size, (bytesRow s (grownCap w s.size 0 5)).size + 1)) := heap_alloc_new w _
  rw [cell_of_row _ w.heap.size i _ _ _ h]
  rw [byteAt_in hi]
  exact bytesRow_at s _ i hi
theorem long_any (w : World) (s : ByteArray) (hs : 12 < s.size) (hm : s.size ≤ 9223372036854775807) :
    Calls Tryz.prog 105 #[.string s] w fun e w' => e = .returned (errV 4) ∧ Below w.heap.size w w' := by
  go_enter Tryz.func105, Tryz.ntmps105
  go_wp2_with fail
  go_ret
  exact ⟨rfl, Below.refl _ _⟩
def CheckPost (w : World) (v : Value) (e : Ending) (w' : World) : Prop := e = .returned v ∧ Below w.heap.size w w'
set_option maxRecDepth 100000 in
set_option maxHeartbeats 2000000 in
theorem short_any (w : World) (s : ByteArray) (hs : s.size ≤ 12) :
    Calls Tryz.prog 105 #[.string s] w (CheckPost w (errV (placeErr s))) := by
  obtain ⟨C, cs, fr, hcv, hcell⟩ := conv_bytes w s
  have HC := Lib.hid hcell
  have hB : Below w.heap.size w (w.drew.alloc (.cells cs 5 fr)) := (Below.refl _ _).drew.alloc (Nat.le_refl _) _
  have HB := Lib.hid hB
  have hle : (12 : Int) < s.size ↔ False := by simp; omega
  clear hcell hB hle
  go_enter Tryz.func105, Tryz.ntmps105
  go_wp2_with fail
  go_loop [13] (fun i => ∃ k : Nat, k ≤ s.size ∧ i = .int .i64 k ∧ Hid (∀ j, j < k → 97 ≤ byteAt s j ∧ byteAt s j ≤ 122)) (fun i => s.size - (intOf i).toNat)
  case atStart => exact ⟨0, Nat.zero_le _, rfl, fun j hj => absurd hj (by omega)⟩
  case round =>
    obtain ⟨k, hk, rfl, hall⟩ := hrel
    by_cases hlt : k < s.size
    · have hc := HC.out k hlt
      have hbb := byteAt_lt s k
      by_cases h1 : 97 ≤ byteAt s k
      · by_cases h2 : byteAt s k ≤ 122
        · go_wp2
          go_round
          case rel => exact ⟨k + 1, by omega, by go_num, fun j hj => by
            rcases Nat.lt_or_ge j k with h | h
            · exact hall.out j h
            · obtain rfl : j = k := by omega
              exact ⟨h1, h2⟩⟩
          case measure => simp [intOf]; omega
        · go_wp2
          go_ret
          exact ⟨by rw [show placeErr s = 2 from by unfold placeErr; rw [if_neg (by omega), if_neg (fun h => h2 (h.1 k hlt).2)]]; rfl, HB.out⟩
      · go_wp2
        go_ret
        exact ⟨by rw [show placeErr s = 2 from by unfold placeErr; rw [if_neg (by omega), if_neg (fun h => h1 (h.1 k hlt).1)]]; rfl, HB.out⟩
    · obtain rfl : k = s.size := by omega
      have HL : Hid (Letters s) := fun i hi => hall.out i hi
      clear hall
      have bad : ¬ EndOk s → placeErr s = 2 := fun h => by unfold placeErr; rw [if_neg (by omega), if_neg (fun h' => h h'.2)]
      have good : EndOk s → placeErr s = 0 := fun h => by unfold placeErr; rw [if_neg (by omega), if_pos ⟨HL.out, h⟩]
      have BAD := Lib.hid bad
      have GOOD := Lib.hid good
      clear bad good
      by_cases a0 : s.size < 2
      · go_wp2
        go_ret
        exact ⟨by rw [BAD.out (fun h => by have := h.1; omega)]; rfl, HB.out⟩
      · have e1 : byteAt s (s.size - 1) = (s[s.size - 1]'(by omega)).toNat := byteAt_in (by omega)
        have e2 : byteAt s (s.size - 2) = (s[s.size - 2]'(by omega)).toNat := byteAt_in (by omega)
        have E1 := Lib.hid e1
        have E2 := Lib.hid e2
        clear e1 e2
        by_cases a1 : (s[s.size - 1]'(by omega)).toNat < 98
        · go_wp2
          go_ret
          exact ⟨by rw [BAD.out (fun h => by have := h.2.1; rw [E1.out] at this; omega)]; rfl, HB.out⟩
        · by_cases a2 : 105 < (s[s.size - 1]'(by omega)).toNat
          · go_wp2
            go_ret
            exact ⟨by rw [BAD.out (fun h => by have := h.2.2.1; rw [E1.out] at this; omega)]; rfl, HB.out⟩
          · by_cases a3 : (s[s.size - 2]'(by omega)).toNat = 97
            · have a3' : (((s[s.size - 2]'(by omega)).toNat : Int) == 97) = true := by simp [a3]
              have A3 := Lib.hid a3
              clear a3
              go_wp2
              go_ret
              exact ⟨by rw [BAD.out (fun h => by have := h.2.2.2; rw [E2.out] at this; exact this A3.out)]; rfl, HB.out⟩
            · have a3' : (((s[s.size - 2]'(by omega)).toNat : Int) == 97) = false := by simp; omega
              go_wp2
              go_ret
              exact ⟨by rw [GOOD.out ⟨by omega, by rw [E1.out]; omega, by rw [E1.out]; omega, by rw [E2.out]; exact a3⟩]; rfl, HB.out⟩
theorem check_any (w : World) (s : ByteArray) (hm : s.size ≤ 9223372036854775807) :
    Calls Tryz.prog 105 #[.string s] w (CheckPost w (errV (placeErr s))) := by
  by_cases h : s.size ≤ 12
  · exact short_any w s h
  · have e : placeErr s = 4 := by unfold placeErr; rw [if_pos (by omega)]
    rw [e]
    exact long_any w s (by omega) hm
theorem toList_len (s : ByteArray) : s.toList.length = s.size := by rw [ByteArray.toList_eq]; rfl
theorem isEmpty_of {s : ByteArray} (h : s.size = 0) : s.toList.isEmpty = true := by
  rw [List.isEmpty_iff]
  exact List.eq_nil_of_length_eq_zero (by rw [toList_len]; exact h)
theorem isEmpty_not {s : ByteArray} (h : s.size ≠ 0) : s.toList.isEmpty = false := by
  cases hh : s.toList.isEmpty
  · rfl
  · exact absurd (by rw [← toList_len, List.isEmpty_iff.1 hh]; rfl) h
theorem okPlace {s : ByteArray} (h : placeErr s = 0) : s.size ≤ 12 ∧ Letters s ∧ EndOk s := by
  unfold placeErr at h
  split at h
  · cases h
  · split at h
    · rename_i h1 h2; exact ⟨by omega, h2⟩
    · cases h
theorem placeErr_cases (s : ByteArray) : placeErr s = 0 ∨ placeErr s = 2 ∨ placeErr s = 4 := by
  unfold placeErr
  split
  · simp
  · split <;> simp
theorem strOf_toList (l : List UInt8) : (strOf l).toList = l := by rw [ByteArray.toList_eq]; simp [strOf]
theorem strOf_append (l m : List UInt8) : strOf l ++ strOf m = strOf (l ++ m) := by
  apply ByteArray.ext
  simp [strOf]
theorem strOf_nil : strOf [] = ⟨#[]⟩ := rfl
end Go.Proofs.YtkaccnegdmpofaaGreatDoor
/- dot.Check, walked. Conditions: stated with each. -/
namespace Go.Proofs.YtkaccnegdmpofaaGreatDoor
open Go.RowKit
set_option linter.unusedVariables false

structure LDot where
  who : Int
  n : Int
  deriving DecidableEq
def LDot.val (d : LDot) : Value := .agg #[.int .i64 d.who, .int .i64 d.n]
def LDot.cells (d : LDot) : List Value := [.int .i64 d.who, .int .i64 d.n]
def dotErr (d : LDot) : Int := if 1 ≤ d.who ∧ d.who ≤ 8 ∧ 1 ≤ d.n ∧ d.n ≤ 9999 then 0 else 1
set_option maxRecDepth 100000 in
theorem dotCheck_any (w : World) (who n : Int) :
    Calls Tryz.prog 104 #[.agg #[.int .i64 who, .int .i64 n]] w (CheckPost w (errV (dotErr ⟨who, n⟩))) := by
  have HA := Lib.hid (fun w => author_any w who)
  have bad : ¬ (1 ≤ who ∧ who ≤ 8 ∧ 1 ≤ n ∧ n ≤ 9999) → dotErr ⟨who, n⟩ = 1 := fun h => if_neg h
  have good : (1 ≤ who ∧ who ≤ 8 ∧ 1 ≤ n ∧ n ≤ 9999) → dotErr ⟨who, n⟩ = 0 := fun h => if_pos h
  have BAD := Lib.hid bad
  have GOOD := Lib.hid good
  have HB : Hid (Below w.heap.size w (w.alloc (.cells #[.int .i64 who, .int .i64 n] 45))) := (Below.refl _ _).alloc (Nat.le_refl _) _
  clear bad good
  by_cases hw : 1 ≤ who ∧ who ≤ 8
  · have hau : (decide (1 ≤ who) && decide (who ≤ 8)) = true := by simp; omega
    have HAU := Lib.hid hau
    clear hau
    by_cases h1 : n < 1
    · go_enter Tryz.func104, Tryz.ntmps104
      go_wp2_with fail
      refine (HA.out _).mono ?_
      rintro e w1 ⟨rfl, rfl⟩
      rw [HAU.out]
      go_wp2_with fail
      go_ret
      exact ⟨by rw [BAD.out (by omega)]; rfl, HB.out⟩
    · by_cases h2 : 9999 < n
      · go_enter Tryz.func104, Tryz.ntmps104
        go_wp2_with fail
        refine (HA.out _).mono ?_
        rintro e w1 ⟨rfl, rfl⟩
        rw [HAU.out]
        go_wp2_with fail
        go_ret
        exact ⟨by rw [BAD.out (by omega)]; rfl, HB.out⟩
      · go_enter Tryz.func104, Tryz.ntmps104
        go_wp2_with fail
        refine (HA.out _).mono ?_
        rintro e w1 ⟨rfl, rfl⟩
        rw [HAU.out]
        go_wp2_with fail
        go_ret
        exact ⟨by rw [GOOD.out (by omega)]; rfl, HB.out⟩
  · have hau : (decide (1 ≤ who) && decide (who ≤ 8)) = false := by simp; omega
    have HAU := Lib.hid hau
    have HW := Lib.hid hw
    clear hau hw
    go_enter Tryz.func104, Tryz.ntmps104
    go_wp2_with fail
    refine (HA.out _).mono ?_
    rintro e w1 ⟨rfl, rfl⟩
    rw [HAU.out]
    go_wp2_with fail
    go_ret
    exact ⟨by rw [BAD.out (fun h => HW.out ⟨h.1, h.2.1⟩)]; rfl, HB.out⟩
end Go.Proofs.YtkaccnegdmpofaaGreatDoor
/- dot.Order, walked. Conditions: stated with each. -/
namespace Go.Proofs.YtkaccnegdmpofaaGreatDoor
open Go.RowKit
set_option linter.unusedVariables false


def cmpI (a b : Int) : Int := if a < b then -1 else if b < a then 1 else 0
def ordD (a b : LDot) : Int := if cmpI a.who b.who ≠ 0 then cmpI a.who b.who else cmpI a.n b.n
theorem isNaN_any (w : World) (n : Int) : Calls Tryz.prog 204 #[.int .i64 n] w fun e w' => e = .returned (.bool false) ∧ w' = w := by
  go_enter Tryz.func204, Tryz.ntmps204
  go_wp2
  go_ret
  exact ⟨by simp, rfl⟩
set_option maxRecDepth 100000 in
theorem compare_any (w : World) (a b : Int) : Calls Tryz.prog 180 #[.int .i64 a, .int .i64 b] w fun e w' => e = .returned (.int .i64 (cmpI a b)) ∧ w' = w := by
  rcases Int.lt_trichotomy a b with h | h | h
  · have hc : cmpI a b = -1 := if_pos h
    have HC := Lib.hid hc
    clear hc
    go_enter Tryz.func180, Tryz.ntmps180
    go_wp2_with (go_at_call 204; refine (isNaN_any _ _).mono ?_; rintro e w' ⟨rfl, rfl⟩)
    go_ret
    exact ⟨by rw [HC.out]; rfl, rfl⟩
  · subst h
    have hc : cmpI a a = 0 := by unfold cmpI; rw [if_neg (by omega), if_neg (by omega)]
    have HC := Lib.hid hc
    clear hc
    go_enter Tryz.func180, Tryz.ntmps180
    go_wp2_with (go_at_call 204; refine (isNaN_any _ _).mono ?_; rintro e w' ⟨rfl, rfl⟩)
    go_ret
    exact ⟨by rw [HC.out]; rfl, rfl⟩
  · have hc : cmpI a b = 1 := by unfold cmpI; rw [if_neg (by omega), if_pos h]
    have HC := Lib.hid hc
    clear hc
    go_enter Tryz.func180, Tryz.ntmps180
    go_wp2_with (go_at_call 204; refine (isNaN_any _ _).mono ?_; rintro e w' ⟨rfl, rfl⟩)
    go_ret
    exact ⟨by rw [HC.out]; rfl, rfl⟩
def orI (x y : Int) : Int := if x ≠ 0 then x else y
theorem ordD_eq (a b : LDot) : ordD a b = orI (cmpI a.who b.who) (cmpI a.n b.n) := rfl
set_option maxRecDepth 100000 in
theorem or_any (w : World) (g : Nat) (x y : Int) (c0 : w.cell? ⟨g, 0, none⟩ = some (.int .i64 x)) (c1 : w.cell? ⟨g, 1, none⟩ = some (.int .i64 y)) :
    Calls Tryz.prog 179 #[.slice (some ⟨g, 0, none⟩) 2 2] w fun e w' => e = .returned (.int .i64 (orI x y)) ∧ w' = w := by
  go_enter Tryz.func179, Tryz.ntmps179
  go_wp2_with fail
  go_loop [8] (fun i => ∃ k : Nat, k ≤ 2 ∧ i = .int .i64 k ∧ Hid (1 ≤ k → x = 0) ∧ Hid (2 ≤ k → y = 0)) (fun i => 2 - (intOf i).toNat)
  case atStart => exact ⟨0, by omega, rfl, fun h => by omega, fun h => by omega⟩
  case round =>
    obtain ⟨k, hk, rfl, p0, p1⟩ := hrel
    rcases (show k = 0 ∨ k = 1 ∨ k = 2 by omega) with rfl | rfl | rfl
    · by_cases hx : x = 0
      · have hb : (x != 0) = false := by simp [hx]
        have HX := Lib.hid hx
        clear hx
        go_wp2_with fail
        go_round
        case rel => exact ⟨1, by omega, rfl, fun _ => HX.out, fun h => by omega⟩
        case measure => simp [intOf]
      · have hb : (x != 0) = true := by simp [hx]
        have HX := Lib.hid hx
        clear hx
        go_wp2_with fail
        go_ret
        exact ⟨by rw [show orI x y = x from if_pos HX.out]; rfl, rfl⟩
    · have HX := Lib.hid (p0.out (by omega))
      clear p0 p1
      by_cases hy : y = 0
      · have hb : (y != 0) = false := by simp [hy]
        have HY := Lib.hid hy
        clear hy
        go_wp2_with fail
        go_round
        case rel => exact ⟨2, by omega, rfl, fun _ => HX.out, fun _ => HY.out⟩
        case measure => simp [intOf]
      · have hb : (y != 0) = true := by simp [hy]
        clear hy
        go_wp2_with fail
        go_ret
        exact ⟨by rw [show orI x y = y from if_neg (fun h => h HX.out)]; rfl, rfl⟩
    · have HX := Lib.hid (p0.out (by omega))
      have HY := Lib.hid (p1.out (by omega))
      clear p0 p1
      go_wp2_with fail
      go_ret
      exact ⟨by rw [show orI x y = y from if_neg (fun h => h HX.out), HY.out]; rfl, rfl⟩
set_option maxRecDepth 100000 in
set_option maxHeartbeats 1000000 in
theorem order_any (w : World) (a0 a1 b0 b1 : Int) :
    Calls Tryz.prog 154 #[.agg #[.int .i64 a0, .int .i64 a1], .agg #[.int .i64 b0, .int .i64 b1]] w (CheckPost w (.int .i64 (ordD ⟨a0, a1⟩ ⟨b0, b1⟩))) := by
  have hb : Blk ((((w.alloc (.cells #[.int .i64 a0, .int .i64 a1] 45)).alloc (.cells #[.int .i64 b0, .int .i64 b1] 45)).alloc (.cells #[.int .i64 (cmpI a0 b0), .int .i64 (cmpI a1 b1)] 3)).drew) (w.heap.size + 1 + 1) 3 #[.int .i64 (cmpI a0 b0), .int .i64 (cmpI a1 b1)] := by
    have := (Blk.new ((w.alloc (.cells #[.int .i64 a0, .int .i64 a1] 45)).alloc (.cells #[.int .i64 b0, .int .i64 b1] 45)) 3 #[.int .i64 (cmpI a0 b0), .int .i64 (cmpI a1 b1)]).drew
    simpa using this
  have OR := Lib.hid (or_any _ (w.heap.size + 1 + 1) (cmpI a0 b0) (cmpI a1 b1) (hb.cell 0) (hb.cell 1))
  have HBel : Hid (Below w.heap.size w ((((w.alloc (.cells #[.int .i64 a0, .int .i64 a1] 45)).alloc (.cells #[.int .i64 b0, .int .i64 b1] 45)).alloc (.cells #[.int .i64 (cmpI a0 b0), .int .i64 (cmpI a1 b1)] 3)).drew)) :=
    ((((Below.refl _ _).alloc (Nat.le_refl _) _).alloc (by simp) _).alloc (by simp; omega) _).drew
  clear hb
  go_enter Tryz.func154, Tryz.ntmps154
  go_wp2_with fail
  go_region_held3 (fun w' => w'.cell? ⟨w.heap.size, 0, none⟩ = some (.int .i64 a0) ∧ w'.cell? ⟨w.heap.size, 1, none⟩ = some (.int .i64 a1) ∧ w'.cell? ⟨w.heap.size + 1, 0, none⟩ = some (.int .i64 b0) ∧ w'.cell? ⟨w.heap.size + 1, 1, none⟩ = some (.int .i64 b1))
    (first
      | go_keep
      | (refine ⟨?_, ?_, ?_, ?_⟩ <;> assumption))
    (first
      | (go_at_call 180; refine (compare_any _ _ _).mono ?_; rintro e w' ⟨rfl, rfl⟩)
      | (go_at_call 179; refine OR.out.mono ?_; rintro e w' ⟨rfl, rfl⟩))
  all_goals
    go_wp2_with fail
    go_ret
    exact ⟨rfl, HBel.out⟩
end Go.Proofs.YtkaccnegdmpofaaGreatDoor

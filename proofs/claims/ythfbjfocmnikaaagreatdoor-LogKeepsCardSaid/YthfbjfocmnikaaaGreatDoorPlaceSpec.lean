/- Places as plain data: what package place reckons. Conditions: none. -/
import Derived.Deep.DeepCutAuto
import Derived.Deep.OwnRows
import Derived.Laws.BytesArg
import Derived.Laws.IdiomStrings
import Derived.Test.YthfbjfocmnikaaaGreatDoorMem
namespace Go.Proofs.YthfbjfocmnikaaaGreatDoor
open Go.RowKit
set_option linter.unusedVariables false

/-- Byte i of a text; 0 behind its end. -/
def byteAt (s : ByteArray) (i : Nat) : Nat := if h : i < s.size then s[i].toNat else 0
theorem byteAt_in {s : ByteArray} {i : Nat} (h : i < s.size) : byteAt s i = s[i].toNat := dif_pos h
theorem byteAt_lt (s : ByteArray) (i : Nat) : byteAt s i < 256 := by
  unfold byteAt
  split
  · exact UInt8.toNat_lt _
  · omega
/-- All bytes are letters from a to z. -/
def Letters (s : ByteArray) : Prop := ∀ i, i < s.size → 97 ≤ byteAt s i ∧ byteAt s i ≤ 122
instance (s : ByteArray) : Decidable (Letters s) := inferInstanceAs (Decidable (∀ i, i < s.size → 97 ≤ byteAt s i ∧ byteAt s i ≤ 122))
/-- The end of a place is right. -/
def EndOk (s : ByteArray) : Prop := 2 ≤ s.size ∧ 98 ≤ byteAt s (s.size - 1) ∧ byteAt s (s.size - 1) ≤ 105 ∧ byteAt s (s.size - 2) ≠ 97
instance (s : ByteArray) : Decidable (EndOk s) := inferInstanceAs (Decidable (_ ∧ _ ∧ _ ∧ _))
/-- What is wrong with a place. -/
def placeErr (s : ByteArray) : Int := if 12 < s.size then 4 else if Letters s ∧ EndOk s then 0 else 2
def errV (e : Int) : Value := if e = 0 then .nilIface else .iface 119 (.int .i64 e)
theorem errV_ne {e : Int} (h : e ≠ 0) : errV e = .iface 119 (.int .i64 e) := if_neg h

/-- The digit of a text at i, to the base 26. -/
def dig (s : ByteArray) (i : Nat) : Nat := if i < s.size then byteAt s i - 97 else 0
/-- The number of its first n letters. -/
def numb (s : ByteArray) : Nat → Nat
  | 0 => 0
  | n + 1 => numb s n * 26 + dig s n
theorem dig_lt {s : ByteArray} (h : Letters s) (i : Nat) : dig s i < 26 := by
  unfold dig
  split
  · rename_i hi; have := h i hi; omega
  · omega
theorem numb_lt {s : ByteArray} (h : Letters s) (n : Nat) : numb s n < 26 ^ n := by
  induction n with
  | zero => simp [numb]
  | succ n ih =>
    have hd := dig_lt h n
    simp only [numb, Nat.pow_succ]
    omega
theorem pow26_le {n : Nat} (h : n ≤ 11) : 26 ^ n ≤ 3670344486987776 := by
  calc 26 ^ n ≤ 26 ^ 11 := Nat.pow_le_pow_right (by decide) h
    _ = 3670344486987776 := by decide
/-- n letters of a number. -/
def lets : Nat → Nat → List UInt8
  | _, 0 => []
  | x, n + 1 => lets (x / 26) n ++ [UInt8.ofNat (97 + x % 26)]
theorem lets_len (x n : Nat) : (lets x n).length = n := by
  induction n generalizing x with
  | zero => rfl
  | succ n ih => simp [lets, ih]
/-- How many numbers from 1 to n are no multiples of 26. -/
def upTo (n : Nat) : Nat := n - n / 26
/-- The upper end, for n letters. -/
def high (b : ByteArray) (n : Nat) : Int := if b.size = 0 then (26 ^ n : Nat) - 1 else (numb b n : Int) - 1
/-- How many there are, of n letters. -/
def many (a b : ByteArray) (n : Nat) : Int := if high b n < numb a n then 0 else (upTo (high b n).toNat : Int) - upTo (numb a n)
def kth (a b : ByteArray) (n : Nat) : Nat := upTo (numb a n) + ((many a b n).toNat - 1) / 4
def val (a b : ByteArray) (n : Nat) : Nat := kth a b n + kth a b n / 25 + 1
/-- From n letters on: the text at a quarter; empty: none. -/
def quarterFrom (a b : ByteArray) : Nat → Nat → List UInt8
  | _, 0 => []
  | n, fuel + 1 => if many a b n < 1 then quarterFrom a b (n + 1) fuel else lets (val a b n) n
def quarter (a b : ByteArray) : List UInt8 := quarterFrom a b 1 11
/-- What is wrong with two. -/
def readyErr (a b : ByteArray) : Int :=
  if a.size ≠ 0 ∧ placeErr a ≠ 0 then placeErr a
  else if b.size ≠ 0 ∧ placeErr b ≠ 0 then placeErr b
  else if a.size ≠ 0 ∧ b.size ≠ 0 ∧ Op.bytesLess a.toList b.toList = false then 3 else 0
end Go.Proofs.YthfbjfocmnikaaaGreatDoor

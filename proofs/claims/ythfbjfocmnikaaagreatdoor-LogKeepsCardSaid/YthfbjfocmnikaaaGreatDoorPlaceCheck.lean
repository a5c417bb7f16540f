/- 2 texts in one: each says ahead of itself what is proved, and its conditions. -/
import Derived.Deep.DeepCutAuto
import Derived.Deep.OwnRows
import Derived.Laws.BytesArg
import Derived.Laws.IdiomStrings
import Derived.Test.YthfbjfocmnikaaaGreatDoorMem
/- Places as plain data: what package place reckons. Conditions: none. -/
namespace Go.Proofs.YthfbjfocmnikaaaGreatDoor
open Go.RowKit
set_option linter.unusedVariables false

/-- Byte i of a text; 0 behind its end. -/
def byteAt (s : ByteArray) (i : Nat) : Nat := if h : i < s.size then s[i].toNat else 0
theorem byteAt_in {s : ByteArray} {i : Nat} (h : i < s.size) : byteAt s i = s[i].toNat := dif_pos h
theorem byteAt_lt (s : ByteArray) (i : Nat) : byteAt s i < 256 := by
  unfold byteAt
  split
  · exact UInt8.toNat_lt _
  · omega
/-- All bytes are letters from a to z. -/
def Letters (s : ByteArray) : Prop := ∀ i, i < s.size → 97 ≤ byteAt s i ∧ byteAt s i ≤ 122
instance (s : ByteArray) : Decidable (Letters s) := inferInstanceAs (Decidable (∀ i, i < s.size → 97 ≤ byteAt s i ∧ byteAt s i ≤ 122))
/-- The end of a place is right. -/
def EndOk (s : ByteArray) : Prop := 2 ≤ s.size ∧ 98 ≤ byteAt s (s.size - 1) ∧ byteAt s (s.size - 1) ≤ 105 ∧ byteAt s (s.size - 2) ≠ 97
instance (s : ByteArray) : Decidable (EndOk s) := inferInstanceAs (Decidable (_ ∧ _ ∧ _ ∧ _))
/-- What is wrong with a place. -/
def placeErr (s : ByteArray) : Int := if 12 < s.size then 4 else if Letters s ∧ EndOk s then 0 else 2
def errV (e : Int) : Value := if e = 0 then .nilIface else .iface 119 (.int .i64 e)
theorem errV_ne {e : Int} (h : e ≠ 0) : errV e = .iface 119 (.int .i64 e) := if_neg h

/-- The digit of a text at i, to the base 26. -/
def dig (s : ByteArray) (i : Nat) : Nat := if i < s.size then byteAt s i - 97 else 0
/-- The number of its first n letters. -/
def numb (s : ByteArray) : Nat → Nat
  | 0 => 0
  | n + 1 => numb s n * 26 + dig s n
theorem dig_lt {s : ByteArray} (h : Letters s) (i : Nat) : dig s i < 26 := by
  unfold dig
  split
  · rename_i hi; have := h i hi; omega
  · omega
theorem numb_lt {s : ByteArray} (h : Letters s) (n : Nat) : numb s n < 26 ^ n := by
  induction n with
  | zero => simp [numb]
  | succ n ih =>
    have hd := dig_lt h n
    simp only [numb, Nat.pow_succ]
    omega
theorem pow26_le {n : Nat} (h : n ≤ 11) : 26 ^ n ≤ 3670344486987776 := by
  calc 26 ^ n ≤ 26 ^ 11 := Nat.pow_le_pow_right (by decide) h
    _ = 3670344486987776 := by decide
/-- n letters of a number. -/
def lets : Nat → Nat → List UInt8
  | _, 0 => []
  | x, n + 1 => lets (x / 26) n ++ [UInt8.ofNat (97 + x % 26)]
theorem lets_len (x n : Nat) : (lets x n).length = n := by
  induction n generalizing x with
  | zero => rfl
  | succ n ih => simp [lets, ih]
/-- How many numbers from 1 to n are no multiples of 26. -/
def upTo (n : Nat) : Nat := n - n / 26
/-- The upper end, for n letters. -/
def high (b : ByteArray) (n : Nat) : Int := if b.size = 0 then (26 ^ n : Nat) - 1 else (numb b n : Int) - 1
/-- How many there are, of n letters. -/
def many (a b : ByteArray) (n : Nat) : Int := if high b n < numb a n then 0 else (upTo (high b n).toNat : Int) - upTo (numb a n)
def kth (a b : ByteArray) (n : Nat) : Nat := upTo (numb a n) + ((many a b n).toNat - 1) / 4
def val (a b : ByteArray) (n : Nat) : Nat := kth a b n + kth a b n / 25 + 1
/-- From n letters on: the text at a quarter; empty: none. -/
def quarterFrom (a b : ByteArray) : Nat → Nat → List UInt8
  | _, 0 => []
  | n, fuel + 1 => if many a b n < 1 then quarterFrom a b (n + 1) fuel else lets (val a b n) n
def quarter (a b : ByteArray) : List UInt8 := quarterFrom a b 1 11
/-- What is wrong with two. -/
def readyErr (a b : ByteArray) : Int :=
  if a.size ≠ 0 ∧ placeErr a ≠ 0 then placeErr a
  else if b.size ≠ 0 ∧ placeErr b ≠ 0 then placeErr b
  else if a.size ≠ 0 ∧ b.size ≠ 0 ∧ Op.bytesLess a.toList b.toList = false then 3 else 0
end Go.Proofs.YthfbjfocmnikaaaGreatDoor
/- Package place, walked: the author, the check; small words for texts. Conditions: stated with each. -/
namespace Go.Proofs.YthfbjfocmnikaaaGreatDoor
open Go.RowKit
set_option linter.unusedVariables false

theorem author_any (w : World) (n : Int) :
    Calls Tryz.prog 148 #[.int .i64 n] w fun e w' => e = .returned (.bool (decide (1 ≤ n) && decide (n ≤ 8))) ∧ w' = w := by
  by_cases h : 1 ≤ n
  · go_enter Tryz.func148, Tryz.ntmps148
    go_wp2
    go_ret
    exact ⟨by simp [h], rfl⟩
  · go_enter Tryz.func148, Tryz.ntmps148
    go_wp2
    go_ret
    have hd : (decide (1 ≤ n) && decide (n ≤ 8)) = false := by simp; omega
    exact ⟨by rw [hd]; rfl, rfl⟩
/-- The string of some bytes. -/
def strOf (l : List UInt8) : ByteArray := ⟨l.toArray⟩
theorem strOf_size (l : List UInt8) : (strOf l).size = l.length := by simp [strOf, ByteArray.size]
/-- What the check turns into bytes. -/
theorem conv_bytes (w : World) (s : ByteArray) : ∃ C cs fr, (convert 9 122 (.string s)).run Tryz.prog w = .ok (.slice (some ⟨w.heap.size, 0, none⟩) s.size C) (w.drew.alloc (.cells cs 5 fr)) ∧
    ∀ i, i < s.size → (w.alloc (.cells cs 5 fr)).cell? ⟨w.heap.size, i, none⟩ = some (.int .u8 (byteAt s i)) := by
  refine ⟨_, _, _, run_bytes_of_string (P := Tryz.prog) w 9 122 5 s Tryz.underlying9 Tryz.underlying122 Tryz.underlying5, fun i hi => ?_⟩
  have h : (w.alloc (.cells (bytesRow s (grownCap w s.size 0 5)) 5 ((bytesRow s (grownCap w s.size 0 5)).size, (bytesRow s (grownCap w s.size 0 5)).size + 1))).heap[w.heap.size]? = some (.cells (bytesRow s (grownCap w s.size 0 5)) 5 ((bytesRow s (grownCap w s.size 0 5)).size, (bytesRow s (grownCap w s.size 0 5)).size + 1)) := heap_alloc_new w _
  rw [cell_of_row _ w.heap.size i _ _ _ h]
  rw [byteAt_in hi]
  exact bytesRow_at s _ i hi
theorem long_any (w : World) (s : ByteArray) (hs : 12 < s.size) (hm : s.size ≤ 9223372036854775807) :
    Calls Tryz.prog 136 #[.string s] w fun e w' => e = .returned (errV 4) ∧ Below w.heap.size w w' := by
  go_enter Tryz.func136, Tryz.ntmps136
  go_wp2_with fail
  go_ret
  exact ⟨rfl, Below.refl _ _⟩
def CheckPost (w : World) (v : Value) (e : Ending) (w' : World) : Prop := e = .returned v ∧ Below w.heap.size w w'
set_option maxRecDepth 100000 in
set_option maxHeartbeats 2000000 in
theorem short_any (w : World) (s : ByteArray) (hs : s.size ≤ 12) :
    Calls Tryz.prog 136 #[.string s] w (CheckPost w (errV (placeErr s))) := by
  obtain ⟨C, cs, fr, hcv, hcell⟩ := conv_bytes w s
  have HC := Lib.hid hcell
  have hB : Below w.heap.size w (w.drew.alloc (.cells cs 5 fr)) := (Below.refl _ _).drew.alloc (Nat.le_refl _) _
  have HB := Lib.hid hB
  have hle : (12 : Int) < s.size ↔ False := by simp; omega
  clear hcell hB hle
  go_enter Tryz.func136, Tryz.ntmps136
  go_wp2_with fail
  go_loop [13] (fun i => ∃ k : Nat, k ≤ s.size ∧ i = .int .i64 k ∧ Hid (∀ j, j < k → 97 ≤ byteAt s j ∧ byteAt s j ≤ 122)) (fun i => s.size - (intOf i).toNat)
  case atStart => exact ⟨0, Nat.zero_le _, rfl, fun j hj => absurd hj (by omega)⟩
  case round =>
    obtain ⟨k, hk, rfl, hall⟩ := hrel
    by_cases hlt : k < s.size
    · have hc := HC.out k hlt
      have hbb := byteAt_lt s k
      by_cases h1 : 97 ≤ byteAt s k
      · by_cases h2 : byteAt s k ≤ 122
        · go_wp2
          go_round
          case rel => exact ⟨k + 1, by omega, by go_num, fun j hj => by
            rcases Nat.lt_or_ge j k with h | h
            · exact hall.out j h
            · obtain rfl : j = k := by omega
              exact ⟨h1, h2⟩⟩
          case measure => simp [intOf]; omega
        · go_wp2
          go_ret
          exact ⟨by rw [show placeErr s = 2 from by unfold placeErr; rw [if_neg (by omega), if_neg (fun h => h2 (h.1 k hlt).2)]]; rfl, HB.out⟩
      · go_wp2
        go_ret
        exact ⟨by rw [show placeErr s = 2 from by unfold placeErr; rw [if_neg (by omega), if_neg (fun h => h1 (h.1 k hlt).1)]]; rfl, HB.out⟩
    · obtain rfl : k = s.size := by omega
      have HL : Hid (Letters s) := fun i hi => hall.out i hi
      clear hall
      have bad : ¬ EndOk s → placeErr s = 2 := fun h => by unfold placeErr; rw [if_neg (by omega), if_neg (fun h' => h h'.2)]
      have good : EndOk s → placeErr s = 0 := fun h => by unfold placeErr; rw [if_neg (by omega), if_pos ⟨HL.out, h⟩]
      have BAD := Lib.hid bad
      have GOOD := Lib.hid good
      clear bad good
      by_cases a0 : s.size < 2
      · go_wp2
        go_ret
        exact ⟨by rw [BAD.out (fun h => by have := h.1; omega)]; rfl, HB.out⟩
      · have e1 : byteAt s (s.size - 1) = (s[s.size - 1]'(by omega)).toNat := byteAt_in (by omega)
        have e2 : byteAt s (s.size - 2) = (s[s.size - 2]'(by omega)).toNat := byteAt_in (by omega)
        have E1 := Lib.hid e1
        have E2 := Lib.hid e2
        clear e1 e2
        by_cases a1 : (s[s.size - 1]'(by omega)).toNat < 98
        · go_wp2
          go_ret
          exact ⟨by rw [BAD.out (fun h => by have := h.2.1; rw [E1.out] at this; omega)]; rfl, HB.out⟩
        · by_cases a2 : 105 < (s[s.size - 1]'(by omega)).toNat
          · go_wp2
            go_ret
            exact ⟨by rw [BAD.out (fun h => by have := h.2.2.1; rw [E1.out] at this; omega)]; rfl, HB.out⟩
          · by_cases a3 : (s[s.size - 2]'(by omega)).toNat = 97
            · have a3' : (((s[s.size - 2]'(by omega)).toNat : Int) == 97) = true := by simp [a3]
              have A3 := Lib.hid a3
              clear a3
              go_wp2
              go_ret
              exact ⟨by rw [BAD.out (fun h => by have := h.2.2.2; rw [E2.out] at this; exact this A3.out)]; rfl, HB.out⟩
            · have a3' : (((s[s.size - 2]'(by omega)).toNat : Int) == 97) = false := by simp; omega
              go_wp2
              go_ret
              exact ⟨by rw [GOOD.out ⟨by omega, by rw [E1.out]; omega, by rw [E1.out]; omega, by rw [E2.out]; exact a3⟩]; rfl, HB.out⟩
theorem check_any (w : World) (s : ByteArray) (hm : s.size ≤ 9223372036854775807) :
    Calls Tryz.prog 136 #[.string s] w (CheckPost w (errV (placeErr s))) := by
  by_cases h : s.size ≤ 12
  · exact short_any w s h
  · have e : placeErr s = 4 := by unfold placeErr; rw [if_pos (by omega)]
    rw [e]
    exact long_any w s (by omega) hm
theorem strOf_toList (l : List UInt8) : (strOf l).toList = l := by rw [ByteArray.toList_eq]; simp [strOf]
end Go.Proofs.YthfbjfocmnikaaaGreatDoor

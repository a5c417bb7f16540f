/- Package place, walked: the author, the check; small words for texts. Conditions: stated with each. -/
import Derived.Test.YthfbjfocmnikaaaGreatDoorPlaceSpec
namespace Go.Proofs.YthfbjfocmnikaaaGreatDoor
open Go.RowKit
set_option linter.unusedVariables false

theorem author_any (w : World) (n : Int) :
    Calls Tryz.prog 148 #[.int .i64 n] w fun e w' => e = .returned (.bool (decide (1 ≤ n) && decide (n ≤ 8))) ∧ w' = w := by
  by_cases h : 1 ≤ n
  · go_enter Tryz.func148, Tryz.ntmps148
    go_wp2
    go_ret
    exact ⟨by simp [h], rfl⟩
  · go_enter Tryz.func148, Tryz.ntmps148
    go_wp2
    go_ret
    have hd : (decide (1 ≤ n) && decide (n ≤ 8)) = false := by simp; omega
    exact ⟨by rw [hd]; rfl, rfl⟩
/-- The string of some bytes. -/
def strOf (l : List UInt8) : ByteArray := ⟨l.toArray⟩
theorem strOf_size (l : List UInt8) : (strOf l).size = l.length := by simp [strOf, ByteArray.size]
/-- What the check turns into bytes. -/
theorem conv_bytes (w : World) (s : ByteArray) : ∃ C cs fr, (convert 9 122 (.string s)).run Tryz.prog w = .ok (.slice (some ⟨w.heap.size, 0, none⟩) s.size C) (w.drew.alloc (.cells cs 5 fr)) ∧
    ∀ i, i < s.size → (w.alloc (.cells cs 5 fr)).cell? ⟨w.heap.size, i, none⟩ = some (.int .u8 (byteAt s i)) := by
  refine ⟨_, _, _, run_bytes_of_string (P := Tryz.prog) w 9 122 5 s Tryz.underlying9 Tryz.underlying122 Tryz.underlying5, fun i hi => ?_⟩
  have h : (w.alloc (.cells (bytesRow s (grownCap w s.size 0 5)) 5 ((bytesRow s (grownCap w s.size 0 5)).size, (bytesRow s (grownCap w s.size 0 5)).size + 1))).heap[w.heap.size]? = some (.cells (bytesRow s (grownCap w s.size 0 5)) 5 ((bytesRow s (grownCap w s.size 0 5)).size, (bytesRow s (grownCap w s.size 0 5)).size + 1)) := heap_alloc_new w _
  rw [cell_of_row _ w.heap.size i _ _ _ h]
  rw [byteAt_in hi]
  exact bytesRow_at s _ i hi
theorem long_any (w : World) (s : ByteArray) (hs : 12 < s.size) (hm : s.size ≤ 9223372036854775807) :
    Calls Tryz.prog 136 #[.string s] w fun e w' => e = .returned (errV 4) ∧ Below w.heap.size w w' := by
  go_enter Tryz.func136, Tryz.ntmps136
  go_wp2_with fail
  go_ret
  exact ⟨rfl, Below.refl _ _⟩
def CheckPost (w : World) (v : Value) (e : Ending) (w' : World) : Prop := e = .returned v ∧ Below w.heap.size w w'
set_option maxRecDepth 100000 in
set_option maxHeartbeats 2000000 in
theorem short_any (w : World) (s : ByteArray) (hs : s.size ≤ 12) :
    Calls Tryz.prog 136 #[.string s] w (CheckPost w (errV (placeErr s))) := by
  obtain ⟨C, cs, fr, hcv, hcell⟩ := conv_bytes w s
  have HC := Lib.hid hcell
  have hB : Below w.heap.size w (w.drew.alloc (.cells cs 5 fr)) := (Below.refl _ _).drew.alloc (Nat.le_refl _) _
  have HB := Lib.hid hB
  have hle : (12 : Int) < s.size ↔ False := by simp; omega
  clear hcell hB hle
  go_enter Tryz.func136, Tryz.ntmps136
  go_wp2_with fail
  go_loop [13] (fun i => ∃ k : Nat, k ≤ s.size ∧ i = .int .i64 k ∧ Hid (∀ j, j < k → 97 ≤ byteAt s j ∧ byteAt s j ≤ 122)) (fun i => s.size - (intOf i).toNat)
  case atStart => exact ⟨0, Nat.zero_le _, rfl, fun j hj => absurd hj (by omega)⟩
  case round =>
    obtain ⟨k, hk, rfl, hall⟩ := hrel
    by_cases hlt : k < s.size
    · have hc := HC.out k hlt
      have hbb := byteAt_lt s k
      by_cases h1 : 97 ≤ byteAt s k
      · by_cases h2 : byteAt s k ≤ 122
        · go_wp2
          go_round
          case rel => exact ⟨k + 1, by omega, by go_num, fun j hj => by
            rcases Nat.lt_or_ge j k with h | h
            · exact hall.out j h
            · obtain rfl : j = k := by omega
              exact ⟨h1, h2⟩⟩
          case measure => simp [intOf]; omega
        · go_wp2
          go_ret
          exact ⟨by rw [show placeErr s = 2 from by unfold placeErr; rw [if_neg (by omega), if_neg (fun h => h2 (h.1 k hlt).2)]]; rfl, HB.out⟩
      · go_wp2
        go_ret
        exact ⟨by rw [show placeErr s = 2 from by unfold placeErr; rw [if_neg (by omega), if_neg (fun h => h1 (h.1 k hlt).1)]]; rfl, HB.out⟩
    · obtain rfl : k = s.size := by omega
      have HL : Hid (Letters s) := fun i hi => hall.out i hi
      clear hall
      have bad : ¬ EndOk s → placeErr s = 2 := fun h => by unfold placeErr; rw [if_neg (by omega), if_neg (fun h' => h h'.2)]
      have good : EndOk s → placeErr s = 0 := fun h => by unfold placeErr; rw [if_neg (by omega), if_pos ⟨HL.out, h⟩]
      have BAD := Lib.hid bad
      have GOOD := Lib.hid good
      clear bad good
      by_cases a0 : s.size < 2
      · go_wp2
        go_ret
        exact ⟨by rw [BAD.out (fun h => by have := h.1; omega)]; rfl, HB.out⟩
      · have e1 : byteAt s (s.size - 1) = (s[s.size - 1]'(by omega)).toNat := byteAt_in (by omega)
        have e2 : byteAt s (s.size - 2) = (s[s.size - 2]'(by omega)).toNat := byteAt_in (by omega)
        have E1 := Lib.hid e1
        have E2 := Lib.hid e2
        clear e1 e2
        by_cases a1 : (s[s.size - 1]'(by omega)).toNat < 98
        · go_wp2
          go_ret
          exact ⟨by rw [BAD.out (fun h => by have := h.2.1; rw [E1.out] at this; omega)]; rfl, HB.out⟩
        · by_cases a2 : 105 < (s[s.size - 1]'(by omega)).toNat
          · go_wp2
            go_ret
            exact ⟨by rw [BAD.out (fun h => by have := h.2.2.1; rw [E1.out] at this; omega)]; rfl, HB.out⟩
          · by_cases a3 : (s[s.size - 2]'(by omega)).toNat = 97
            · have a3' : (((s[s.size - 2]'(by omega)).toNat : Int) == 97) = true := by simp [a3]
              have A3 := Lib.hid a3
              clear a3
              go_wp2
              go_ret
              exact ⟨by rw [BAD.out (fun h => by have := h.2.2.2; rw [E2.out] at this; exact this A3.out)]; rfl, HB.out⟩
            · have a3' : (((s[s.size - 2]'(by omega)).toNat : Int) == 97) = false := by simp; omega
              go_wp2
              go_ret
              exact ⟨by rw [GOOD.out ⟨by omega, by rw [E1.out]; omega, by rw [E1.out]; omega, by rw [E2.out]; exact a3⟩]; rfl, HB.out⟩
theorem check_any (w : World) (s : ByteArray) (hm : s.size ≤ 9223372036854775807) :
    Calls Tryz.prog 136 #[.string s] w (CheckPost w (errV (placeErr s))) := by
  by_cases h : s.size ≤ 12
  · exact short_any w s h
  · have e : placeErr s = 4 := by unfold placeErr; rw [if_pos (by omega)]
    rw [e]
    exact long_any w s (by omega) hm
theorem strOf_toList (l : List UInt8) : (strOf l).toList = l := by rw [ByteArray.toList_eq]; simp [strOf]
end Go.Proofs.YthfbjfocmnikaaaGreatDoor

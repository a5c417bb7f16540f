/- Package place, walked: numbers and letters, the check. Conditions: stated with each. -/
import Derived.Test.YtpccmnedagkoiaaPlaceSpec
namespace Go.Proofs.Ytpccmnedagkoiaa
open Go.RowKit
set_option linter.unusedVariables false

theorem author_any (w : World) (n : Int) :
    Calls Try.prog 46 #[.int .i64 n] w fun e w' => e = .returned (.bool (decide (1 ≤ n) && decide (n ≤ 8))) ∧ w' = w := by
  by_cases h : 1 ≤ n
  · go_enter Try.func46, Try.ntmps46
    go_wp2
    go_ret
    exact ⟨by simp [h], rfl⟩
  · go_enter Try.func46, Try.ntmps46
    go_wp2
    go_ret
    have hd : (decide (1 ≤ n) && decide (n ≤ 8)) = false := by simp; omega
    exact ⟨by rw [hd]; rfl, rfl⟩

theorem upTo_any (w : World) (n : Nat) (h : n ≤ 3670344486987776) :
    Calls Try.prog 66 #[.int .i64 n] w fun e w' => e = .returned (.int .i64 (upTo n)) ∧ w' = w := by
  go_enter Try.func66, Try.ntmps66
  go_wp2
  go_ret
  refine ⟨?_, rfl⟩
  have : ((upTo n : Nat) : Int) = (n : Int) - n / 26 := by unfold upTo; omega
  rw [this]
  rfl

set_option maxHeartbeats 1000000 in
theorem number_any (w : World) (s : ByteArray) (n : Nat) (hn : n ≤ 11) (hs : s.size ≤ 12) (hl : Letters s) :
    Calls Try.prog 65 #[.string s, .int .i64 n] w fun e w' => e = .returned (.int .i64 (numb s n)) ∧ w' = w := by
  have HL := Lib.hid hl
  clear hl
  go_enter Try.func65, Try.ntmps65
  go_wp2
  go_loop [8, 5] (fun i o => ∃ k : Nat, k ≤ n ∧ i = .int .i64 k ∧ o = .int .i64 (numb s k)) (fun i _ => n - (intOf i).toNat)
  case atStart => exact ⟨0, Nat.zero_le _, rfl, rfl⟩
  case round =>
    obtain ⟨k, hk, rfl, rfl⟩ := hrel
    have hb : numb s k ≤ 3670344486987776 := Nat.le_trans (Nat.le_of_lt (numb_lt HL.out k)) (pow26_le (by omega))
    have hsucc : numb s (k + 1) = numb s k * 26 + dig s k := rfl
    have HS := Lib.hid hsucc
    clear hsucc
    by_cases hlt : k < n
    · by_cases hks : k < s.size
      · have h1 : 97 ≤ s[k].toNat ∧ s[k].toNat ≤ 122 := by have := HL.out k hks; rwa [byteAt_in hks] at this
        have hd : dig s k = s[k].toNat - 97 := by simp [dig, hks, byteAt_in hks]
        have HD := Lib.hid hd
        clear hd
        go_wp2
        go_round
        case rel => exact ⟨k + 1, by omega, by go_num, by rw [HS.out, HD.out]; congr 1; omega⟩
        case measure => simp [intOf]; omega
      · have hd : dig s k = 0 := by simp [dig, hks]
        have HD := Lib.hid hd
        clear hd
        go_wp2
        go_round
        case rel => exact ⟨k + 1, by omega, by go_num, by rw [HS.out, HD.out]; congr 1⟩
        case measure => simp [intOf]; omega
    · obtain rfl : k = n := by omega
      go_wp2
      go_ret
      exact ⟨rfl, rfl⟩

/-- The string of some bytes. -/
def strOf (l : List UInt8) : ByteArray := ⟨l.toArray⟩
theorem strOf_size (l : List UInt8) : (strOf l).size = l.length := by simp [strOf, ByteArray.size]
def u8s (l : List UInt8) : List Value := l.map fun c => .int .u8 (c.toNat : Int)

def LetsLoop (w : World) (x n : Nat) (i v : Value) (wr : World) : Prop :=
  ∃ (k y : Nat) (i' : Int) (tail : List UInt8), k ≤ n ∧ i' = (k : Int) - 1 ∧ i = .int .i64 i' ∧ v = .int .i64 y ∧ y ≤ 3670344486987776 ∧ lets x n = lets y k ++ tail ∧ tail.length = n - k ∧
    Blk wr w.heap.size 5 ((List.replicate k (Value.int .u8 0) ++ u8s tail).toArray) ∧ Below w.heap.size w wr

set_option maxHeartbeats 1000000 in
theorem letters_any (w : World) (x n : Nat) (hn : n ≤ 11) (hx : x ≤ 3670344486987776) :
    Calls Try.prog 67 #[.int .i64 x, .int .i64 n] w fun e w' => e = .returned (.string (strOf (lets x n))) ∧ Below w.heap.size w w' := by
  have hmk := run_make_row' (P := Try.prog) 81 5 (.int .u8 0) 1 Try.underlying81 (by kernel_rfl) rfl .i64 .i64 n (by omega) (by omega)
  have hblk : (madeCells #[.int .u8 0] n) = (List.replicate n (Value.int .u8 0)).toArray := by
    apply Array.ext'
    simp [madeCells]
    apply List.ext_getElem <;> simp [Nat.mod_one]
  rw [hblk] at hmk
  clear hblk
  generalize hC : (List.replicate n (Value.int .u8 0)).toArray = C at hmk
  have HC := Lib.hid hC
  clear hC
  go_enter Try.func67, Try.ntmps67
  go_wp2_with fail
  go_loopw [6, 0] (fun i v wr => LetsLoop w x n i v wr) (fun i _ _ => (intOf i + 1).toNat)
  case atStart =>
    refine ⟨n, x, _, [], Nat.le_refl _, rfl, rfl, rfl, hx, by simp, by simp, ?_, (Below.refl _ _).alloc (Nat.le_refl _) _⟩
    have := Blk.new w 5 C
    simpa [u8s, HC.out] using this
  case round =>
    obtain ⟨k, y, i', tail, hk, hi, rfl, rfl, hy, hlet, htl, hB, hBel⟩ := hrel
    have HLET := Lib.hid hlet
    have HTL := Lib.hid htl
    clear hlet htl
    rcases Nat.eq_zero_or_pos k with h0 | h0
    · obtain rfl : i' = -1 := by omega
      subst h0
      have HI := Lib.hid hi
      clear hi
      have hcells : ∀ j (hj : j < (lets x n).length), wr.cell? ((⟨w.heap.size, 0, none⟩ : Addr).add j) = some (.int .u8 ((lets x n)[j].toNat : Int)) := by
        intro j hj
        have e : (⟨w.heap.size, 0, none⟩ : Addr).add j = ⟨w.heap.size, j, none⟩ := by unfold Addr.add; by_cases h : j = 0 <;> simp [h]
        rw [e, hB.cell]
        have hl : lets x n = tail := by have := HLET.out; simpa [lets] using this
        simp [u8s, ← hl, hj]
      have hcv := run_convert_bytes_back (P := Try.prog) wr 81 9 5 ⟨w.heap.size, 0, none⟩ n (lets x n) Try.underlying81 Try.underlying5 Try.underlying9 hcells
      rw [lets_len] at hcv
      clear hcells
      go_wp2
      go_ret
      exact ⟨rfl, hBel⟩
    · obtain ⟨j, rfl⟩ : ∃ j, k = j + 1 := ⟨k - 1, by omega⟩
      obtain rfl : i' = (j : Int) := by omega
      clear hi
      have hj : j < n := by omega
      have hc : wr.cell? ⟨w.heap.size, j, none⟩ = some (.int .u8 0) := by
        rw [hB.cell]; simp [List.getElem?_append]
      have hf := hB.frozen j
      go_wp2
      go_roundw
      case rel =>
        have hm : (UInt8.ofNat (97 + y % 26)).toNat = 97 + y % 26 := by simp; omega
        refine ⟨j, y / 26, _, UInt8.ofNat (97 + y % 26) :: tail, by omega, rfl, rfl, by go_num, by omega, ?_, ?_, ?_, hBel.setCell (Nat.le_refl _) _⟩
        · rw [HLET.out]; simp [lets]
        · have := HTL.out; simp only [List.length_cons, this]; omega
        · have hx2 := hB.set_ j (.int .u8 (97 + (y : Int) % 26))
          have e : ((List.replicate (j + 1) (Value.int .u8 0) ++ u8s tail).toArray.setIfInBounds j (.int .u8 (97 + (y : Int) % 26))) = (List.replicate j (Value.int .u8 0) ++ u8s (UInt8.ofNat (97 + y % 26) :: tail)).toArray := by
            apply Array.ext'
            simp only [List.setIfInBounds_toArray, u8s, List.map_cons, hm]
            rw [List.set_append_left _ _ (by simp), List.replicate_succ', List.set_append_right _ _ (by simp)]
            simp
          rwa [e] at hx2
      case measure => simp [intOf]

/-- What the check turns into bytes. -/
theorem conv_bytes (w : World) (s : ByteArray) : ∃ C cs fr, (convert 9 81 (.string s)).run Try.prog w = .ok (.slice (some ⟨w.heap.size, 0, none⟩) s.size C) (w.drew.alloc (.cells cs 5 fr)) ∧
    ∀ i, i < s.size → (w.alloc (.cells cs 5 fr)).cell? ⟨w.heap.size, i, none⟩ = some (.int .u8 (byteAt s i)) := by
  refine ⟨_, _, _, run_bytes_of_string (P := Try.prog) w 9 81 5 s Try.underlying9 Try.underlying81 Try.underlying5, fun i hi => ?_⟩
  have h : (w.alloc (.cells (bytesRow s (grownCap w s.size 0 5)) 5 ((bytesRow s (grownCap w s.size 0 5)).size, (bytesRow s (grownCap w s.size 0 5)).size + 1))).heap[w.heap.size]? = some (.cells (bytesRow s (grownCap w s.size 0 5)) 5 ((bytesRow s (grownCap w s.size 0 5)).size, (bytesRow s (grownCap w s.size 0 5)).size + 1)) := heap_alloc_new w _
  rw [cell_of_row _ w.heap.size i _ _ _ h]
  rw [byteAt_in hi]
  exact bytesRow_at s _ i hi

theorem long_any (w : World) (s : ByteArray) (hs : 12 < s.size) (hm : s.size ≤ 9223372036854775807) :
    Calls Try.prog 28 #[.string s] w fun e w' => e = .returned (errV 4) ∧ Below w.heap.size w w' := by
  go_enter Try.func28, Try.ntmps28
  go_wp2_with fail
  go_ret
  exact ⟨rfl, Below.refl _ _⟩

def CheckPost (w : World) (v : Value) (e : Ending) (w' : World) : Prop := e = .returned v ∧ Below w.heap.size w w'
set_option maxRecDepth 100000 in
set_option maxHeartbeats 2000000 in
theorem short_any (w : World) (s : ByteArray) (hs : s.size ≤ 12) :
    Calls Try.prog 28 #[.string s] w (CheckPost w (errV (placeErr s))) := by
  obtain ⟨C, cs, fr, hcv, hcell⟩ := conv_bytes w s
  have HC := Lib.hid hcell
  have hB : Below w.heap.size w (w.drew.alloc (.cells cs 5 fr)) := (Below.refl _ _).drew.alloc (Nat.le_refl _) _
  have HB := Lib.hid hB
  have hle : (12 : Int) < s.size ↔ False := by simp; omega
  clear hcell hB hle
  go_enter Try.func28, Try.ntmps28
  go_wp2_with fail
  go_loop [13] (fun i => ∃ k : Nat, k ≤ s.size ∧ i = .int .i64 k ∧ Hid (∀ j, j < k → 97 ≤ byteAt s j ∧ byteAt s j ≤ 122)) (fun i => s.size - (intOf i).toNat)
  case atStart => exact ⟨0, Nat.zero_le _, rfl, fun j hj => absurd hj (by omega)⟩
  case round =>
    obtain ⟨k, hk, rfl, hall⟩ := hrel
    by_cases hlt : k < s.size
    · have hc := HC.out k hlt
      have hbb := byteAt_lt s k
      by_cases h1 : 97 ≤ byteAt s k
      · by_cases h2 : byteAt s k ≤ 122
        · go_wp2
          go_round
          case rel => exact ⟨k + 1, by omega, by go_num, fun j hj => by
            rcases Nat.lt_or_ge j k with h | h
            · exact hall.out j h
            · obtain rfl : j = k := by omega
              exact ⟨h1, h2⟩⟩
          case measure => simp [intOf]; omega
        · go_wp2
          go_ret
          exact ⟨by rw [show placeErr s = 2 from by unfold placeErr; rw [if_neg (by omega), if_neg (fun h => h2 (h.1 k hlt).2)]]; rfl, HB.out⟩
      · go_wp2
        go_ret
        exact ⟨by rw [show placeErr s = 2 from by unfold placeErr; rw [if_neg (by omega), if_neg (fun h => h1 (h.1 k hlt).1)]]; rfl, HB.out⟩
    · obtain rfl : k = s.size := by omega
      have HL : Hid (Letters s) := fun i hi => hall.out i hi
      clear hall
      have bad : ¬ EndOk s → placeErr s = 2 := fun h => by unfold placeErr; rw [if_neg (by omega), if_neg (fun h' => h h'.2)]
      have good : EndOk s → placeErr s = 0 := fun h => by unfold placeErr; rw [if_neg (by omega), if_pos ⟨HL.out, h⟩]
      have BAD := Lib.hid bad
      have GOOD := Lib.hid good
      clear bad good
      by_cases a0 : s.size < 2
      · go_wp2
        go_ret
        exact ⟨by rw [BAD.out (fun h => by have := h.1; omega)]; rfl, HB.out⟩
      · have e1 : byteAt s (s.size - 1) = (s[s.size - 1]'(by omega)).toNat := byteAt_in (by omega)
        have e2 : byteAt s (s.size - 2) = (s[s.size - 2]'(by omega)).toNat := byteAt_in (by omega)
        have E1 := Lib.hid e1
        have E2 := Lib.hid e2
        clear e1 e2
        by_cases a1 : (s[s.size - 1]'(by omega)).toNat < 98
        · go_wp2
          go_ret
          exact ⟨by rw [BAD.out (fun h => by have := h.2.1; rw [E1.out] at this; omega)]; rfl, HB.out⟩
        · by_cases a2 : 105 < (s[s.size - 1]'(by omega)).toNat
          · go_wp2
            go_ret
            exact ⟨by rw [BAD.out (fun h => by have := h.2.2.1; rw [E1.out] at this; omega)]; rfl, HB.out⟩
          · by_cases a3 : (s[s.size - 2]'(by omega)).toNat = 97
            · have a3' : (((s[s.size - 2]'(by omega)).toNat : Int) == 97) = true := by simp [a3]
              have A3 := Lib.hid a3
              clear a3
              go_wp2
              go_ret
              exact ⟨by rw [BAD.out (fun h => by have := h.2.2.2; rw [E2.out] at this; exact this A3.out)]; rfl, HB.out⟩
            · have a3' : (((s[s.size - 2]'(by omega)).toNat : Int) == 97) = false := by simp; omega
              go_wp2
              go_ret
              exact ⟨by rw [GOOD.out ⟨by omega, by rw [E1.out]; omega, by rw [E1.out]; omega, by rw [E2.out]; exact a3⟩]; rfl, HB.out⟩

theorem check_any (w : World) (s : ByteArray) (hm : s.size ≤ 9223372036854775807) :
    Calls Try.prog 28 #[.string s] w (CheckPost w (errV (placeErr s))) := by
  by_cases h : s.size ≤ 12
  · exact short_any w s h
  · have e : placeErr s = 4 := by unfold placeErr; rw [if_pos (by omega)]
    rw [e]
    exact long_any w s (by omega) hm
end Go.Proofs.Ytpccmnedagkoiaa

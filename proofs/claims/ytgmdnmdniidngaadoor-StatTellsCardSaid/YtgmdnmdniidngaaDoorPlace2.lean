/- 2 texts in one: each says ahead of itself what is proved, and its conditions. -/
import Derived.Test.YtgmdnmdniidngaaDoorPlaceCheck
/- Package place, walked: numbers and letters. Conditions: stated with each. -/
namespace Go.Proofs.YtgmdnmdniidngaaDoor
open Go.RowKit
set_option linter.unusedVariables false


theorem upTo_any (w : World) (n : Nat) (h : n ≤ 3670344486987776) :
    Calls Tryd.prog 63 #[.int .i64 n] w fun e w' => e = .returned (.int .i64 (upTo n)) ∧ w' = w := by
  go_enter Tryd.func63, Tryd.ntmps63
  go_wp2
  go_ret
  refine ⟨?_, rfl⟩
  have : ((upTo n : Nat) : Int) = (n : Int) - n / 26 := by unfold upTo; omega
  rw [this]
  rfl
set_option maxHeartbeats 1000000 in
theorem number_any (w : World) (s : ByteArray) (n : Nat) (hn : n ≤ 11) (hs : s.size ≤ 12) (hl : Letters s) :
    Calls Tryd.prog 62 #[.string s, .int .i64 n] w fun e w' => e = .returned (.int .i64 (numb s n)) ∧ w' = w := by
  have HL := Lib.hid hl
  clear hl
  go_enter Tryd.func62, Tryd.ntmps62
  go_wp2
  go_loop [8, 5] (fun i o => ∃ k : Nat, k ≤ n ∧ i = .int .i64 k ∧ o = .int .i64 (numb s k)) (fun i _ => n - (intOf i).toNat)
  case atStart => exact ⟨0, Nat.zero_le _, rfl, rfl⟩
  case round =>
    obtain ⟨k, hk, rfl, rfl⟩ := hrel
    have hb : numb s k ≤ 3670344486987776 := Nat.le_trans (Nat.le_of_lt (numb_lt HL.out k)) (pow26_le (by omega))
    have hsucc : numb s (k + 1) = numb s k * 26 + dig s k := rfl
    have HS := Lib.hid hsucc
    clear hsucc
    by_cases hlt : k < n
    · by_cases hks : k < s.size
      · have h1 : 97 ≤ s[k].toNat ∧ s[k].toNat ≤ 122 := by have := HL.out k hks; rwa [byteAt_in hks] at this
        have hd : dig s k = s[k].toNat - 97 := by simp [dig, hks, byteAt_in hks]
        have HD := Lib.hid hd
        clear hd
        go_wp2
        go_round
        case rel => exact ⟨k + 1, by omega, by go_num, by rw [HS.out, HD.out]; congr 1; omega⟩
        case measure => simp [intOf]; omega
      · have hd : dig s k = 0 := by simp [dig, hks]
        have HD := Lib.hid hd
        clear hd
        go_wp2
        go_round
        case rel => exact ⟨k + 1, by omega, by go_num, by rw [HS.out, HD.out]; congr 1⟩
        case measure => simp [intOf]; omega
    · obtain rfl : k = n := by omega
      go_wp2
      go_ret
      exact ⟨rfl, rfl⟩
def LetsLoop (w : World) (x n : Nat) (i v : Value) (wr : World) : Prop :=
  ∃ (k y : Nat) (i' : Int) (tail : List UInt8), k ≤ n ∧ i' = (k : Int) - 1 ∧ i = .int .i64 i' ∧ v = .int .i64 y ∧ y ≤ 3670344486987776 ∧ lets x n = lets y k ++ tail ∧ tail.length = n - k ∧
    Blk wr w.heap.size 5 ((List.replicate k (Value.int .u8 0) ++ u8s tail).toArray) ∧ Below w.heap.size w wr
set_option maxHeartbeats 1000000 in
theorem letters_any (w : World) (x n : Nat) (hn : n ≤ 11) (hx : x ≤ 3670344486987776) :
    Calls Tryd.prog 64 #[.int .i64 x, .int .i64 n] w fun e w' => e = .returned (.string (strOf (lets x n))) ∧ Below w.heap.size w w' := by
  have hmk := run_make_row' (P := Tryd.prog) 80 5 (.int .u8 0) 1 Tryd.underlying80 (by kernel_rfl) rfl .i64 .i64 n (by omega) (by omega)
  have hblk : (madeCells #[.int .u8 0] n) = (List.replicate n (Value.int .u8 0)).toArray := by
    apply Array.ext'
    simp [madeCells]
    apply List.ext_getElem <;> simp [Nat.mod_one]
  rw [hblk] at hmk
  clear hblk
  generalize hC : (List.replicate n (Value.int .u8 0)).toArray = C at hmk
  have HC := Lib.hid hC
  clear hC
  go_enter Tryd.func64, Tryd.ntmps64
  go_wp2_with fail
  go_loopw [6, 0] (fun i v wr => LetsLoop w x n i v wr) (fun i _ _ => (intOf i + 1).toNat)
  case atStart =>
    refine ⟨n, x, _, [], Nat.le_refl _, rfl, rfl, rfl, hx, by simp, by simp, ?_, (Below.refl _ _).alloc (Nat.le_refl _) _⟩
    have := Blk.new w 5 C
    simpa [u8s, HC.out] using this
  case round =>
    obtain ⟨k, y, i', tail, hk, hi, rfl, rfl, hy, hlet, htl, hB, hBel⟩ := hrel
    have HLET := Lib.hid hlet
    have HTL := Lib.hid htl
    clear hlet htl
    rcases Nat.eq_zero_or_pos k with h0 | h0
    · obtain rfl : i' = -1 := by omega
      subst h0
      have HI := Lib.hid hi
      clear hi
      have hcells : ∀ j (hj : j < (lets x n).length), wr.cell? ((⟨w.heap.size, 0, none⟩ : Addr).add j) = some (.int .u8 ((lets x n)[j].toNat : Int)) := by
        intro j hj
        have e : (⟨w.heap.size, 0, none⟩ : Addr).add j = ⟨w.heap.size, j, none⟩ := by unfold Addr.add; by_cases h : j = 0 <;> simp [h]
        rw [e, hB.cell]
        have hl : lets x n = tail := by have := HLET.out; simpa [lets] using this
        simp [u8s, ← hl, hj]
      have hcv := run_convert_bytes_back (P := Tryd.prog) wr 80 9 5 ⟨w.heap.size, 0, none⟩ n (lets x n) Tryd.underlying80 Tryd.underlying5 Tryd.underlying9 hcells
      rw [lets_len] at hcv
      clear hcells
      go_wp2
      go_ret
      exact ⟨rfl, hBel⟩
    · obtain ⟨j, rfl⟩ : ∃ j, k = j + 1 := ⟨k - 1, by omega⟩
      obtain rfl : i' = (j : Int) := by omega
      clear hi
      have hj : j < n := by omega
      have hc : wr.cell? ⟨w.heap.size, j, none⟩ = some (.int .u8 0) := by
        rw [hB.cell]; simp [List.getElem?_append]
      have hf := hB.frozen j
      go_wp2
      go_roundw
      case rel =>
        have hm : (UInt8.ofNat (97 + y % 26)).toNat = 97 + y % 26 := by simp; omega
        refine ⟨j, y / 26, _, UInt8.ofNat (97 + y % 26) :: tail, by omega, rfl, rfl, by go_num, by omega, ?_, ?_, ?_, hBel.setCell (Nat.le_refl _) _⟩
        · rw [HLET.out]; simp [lets]
        · have := HTL.out; simp only [List.length_cons, this]; omega
        · have hx2 := hB.set_ j (.int .u8 (97 + (y : Int) % 26))
          have e : ((List.replicate (j + 1) (Value.int .u8 0) ++ u8s tail).toArray.setIfInBounds j (.int .u8 (97 + (y : Int) % 26))) = (List.replicate j (Value.int .u8 0) ++ u8s (UInt8.ofNat (97 + y % 26) :: tail)).toArray := by
            apply Array.ext'
            simp only [List.setIfInBounds_toArray, u8s, List.map_cons, hm]
            rw [List.set_append_left _ _ (by simp), List.replicate_succ', List.set_append_right _ _ (by simp)]
            simp
          rwa [e] at hx2
      case measure => simp [intOf]
end Go.Proofs.YtgmdnmdniidngaaDoor
/- place.ready, walked. Conditions: stated with each. -/
namespace Go.Proofs.YtgmdnmdniidngaaDoor
open Go.RowKit
set_option linter.unusedVariables false


def ReadyLoop (w : World) (a b : ByteArray) (v : Value) (wr : World) : Prop :=
  ∃ k : Nat, k ≤ 2 ∧ v = .int .i64 k ∧ wr.cell? ⟨w.heap.size, 0, none⟩ = some (.string a) ∧ wr.cell? ⟨w.heap.size, 1, none⟩ = some (.string b) ∧ w.heap.size < wr.heap.size ∧ Below w.heap.size w wr ∧
    Hid (1 ≤ k → a.size = 0 ∨ placeErr a = 0) ∧ Hid (2 ≤ k → b.size = 0 ∨ placeErr b = 0)
set_option maxRecDepth 100000 in
set_option maxHeartbeats 2000000 in
theorem ready_any (w : World) (a b : ByteArray) (ha : a.size ≤ 9223372036854775807) (hb : b.size ≤ 9223372036854775807) :
    Calls Tryd.prog 46 #[.string a, .string b] w (CheckPost w (errV (readyErr a b))) := by
  have HA := Lib.hid (fun w => check_any w a ha)
  have HB := Lib.hid (fun w => check_any w b hb)
  clear ha hb
  go_enter Tryd.func46, Tryd.ntmps46
  go_wp2_with fail
  go_loopw [12] (fun v wr => ReadyLoop w a b v wr) (fun v _ => (2 - (intOf v).toNat))
  case atStart => exact ⟨0, by omega, rfl, by simp [World.cell?_alloc_new], by simp [World.cell?_alloc_new], by simp, (Below.refl _ _).alloc (Nat.le_refl _) _, fun h => by omega, fun h => by omega⟩
  case round =>
    obtain ⟨k, hk, rfl, c0, c1, hlt, hBel, p0, p1⟩ := hrel
    rcases (show k = 0 ∨ k = 1 ∨ k = 2 by omega) with rfl | rfl | rfl
    · by_cases hz : a.size = 0
      · have hE := isEmpty_of hz
        have HZ := Lib.hid hz
        clear hz
        go_wp2_with fail
        go_roundw
        case rel => exact ⟨1, by omega, rfl, c0, c1, hlt, hBel, fun _ => .inl HZ.out, fun h => by omega⟩
        case measure => simp [intOf]
      · have hE := isEmpty_not hz
        have HZ := Lib.hid hz
        clear hz
        by_cases hp : placeErr a = 0
        · have HP := Lib.hid hp
          clear hp
          go_wp2_with fail
          refine (HA.out wr).mono ?_
          rintro e w1 ⟨rfl, hb1⟩
          rw [HP.out, show errV 0 = .nilIface from rfl]
          have d0 : w1.cell? ⟨w.heap.size, 0, none⟩ = some (.string a) := by rw [hb1.cell (by simpa using hlt)]; exact c0
          have d1 : w1.cell? ⟨w.heap.size, 1, none⟩ = some (.string b) := by rw [hb1.cell (by simpa using hlt)]; exact c1
          go_wp2_with fail
          go_roundw
          case rel => exact ⟨1, by omega, rfl, d0, d1, Nat.lt_of_lt_of_le hlt hb1.size, hBel.trans (hb1.mono (by omega)), fun _ => .inr HP.out, fun h => by omega⟩
          case measure => simp [intOf]
        · have HV := Lib.hid (errV_ne hp)
          have HP := Lib.hid hp
          clear hp
          go_wp2_with fail
          refine (HA.out wr).mono ?_
          rintro e w1 ⟨rfl, hb1⟩
          rw [HV.out]
          go_wp2_with fail
          go_ret
          refine ⟨?_, hBel.trans (hb1.mono (by omega))⟩
          rw [show readyErr a b = placeErr a from by unfold readyErr; rw [if_pos ⟨HZ.out, HP.out⟩], HV.out]
          rfl
    · have HK := Lib.hid (p0.out (by omega))
      clear p0 p1
      by_cases hz : b.size = 0
      · have hE := isEmpty_of hz
        have HZ := Lib.hid hz
        clear hz
        go_wp2_with fail
        go_roundw
        case rel => exact ⟨2, by omega, rfl, c0, c1, hlt, hBel, fun _ => HK.out, fun _ => .inl HZ.out⟩
        case measure => simp [intOf]
      · have hE := isEmpty_not hz
        have HZ := Lib.hid hz
        clear hz
        by_cases hp : placeErr b = 0
        · have HP := Lib.hid hp
          clear hp
          go_wp2_with fail
          refine (HB.out wr).mono ?_
          rintro e w1 ⟨rfl, hb1⟩
          rw [HP.out, show errV 0 = .nilIface from rfl]
          have d0 : w1.cell? ⟨w.heap.size, 0, none⟩ = some (.string a) := by rw [hb1.cell (by simpa using hlt)]; exact c0
          have d1 : w1.cell? ⟨w.heap.size, 1, none⟩ = some (.string b) := by rw [hb1.cell (by simpa using hlt)]; exact c1
          go_wp2_with fail
          go_roundw
          case rel => exact ⟨2, by omega, rfl, d0, d1, Nat.lt_of_lt_of_le hlt hb1.size, hBel.trans (hb1.mono (by omega)), fun _ => HK.out, fun _ => .inr HP.out⟩
          case measure => simp [intOf]
        · have HV := Lib.hid (errV_ne hp)
          have HP := Lib.hid hp
          clear hp
          go_wp2_with fail
          refine (HB.out wr).mono ?_
          rintro e w1 ⟨rfl, hb1⟩
          rw [HV.out]
          go_wp2_with fail
          go_ret
          refine ⟨?_, hBel.trans (hb1.mono (by omega))⟩
          rw [show readyErr a b = placeErr b from by unfold readyErr; rw [if_neg (fun h => by rcases HK.out with h1 | h1; exact h.1 h1; exact h.2 h1), if_pos ⟨HZ.out, HP.out⟩], HV.out]
          rfl
    · have HK := Lib.hid (p0.out (by omega))
      have HK2 := Lib.hid (p1.out (by omega))
      have hrd : readyErr a b = if a.size ≠ 0 ∧ b.size ≠ 0 ∧ Op.bytesLess a.toList b.toList = false then 3 else 0 := by
        unfold readyErr
        rw [if_neg (fun h => by rcases HK.out with h1 | h1; exact h.1 h1; exact h.2 h1), if_neg (fun h => by rcases HK2.out with h1 | h1; exact h.1 h1; exact h.2 h1)]
      have HRD := Lib.hid hrd
      clear p0 p1 hrd
      by_cases hza : a.size = 0
      · have hE := isEmpty_of hza
        have HZ := Lib.hid hza
        clear hza
        go_wp2_with fail
        go_ret
        exact ⟨by rw [HRD.out, if_neg (fun h => h.1 HZ.out)]; rfl, hBel⟩
      · have hE := isEmpty_not hza
        have HZ := Lib.hid hza
        clear hza
        by_cases hzb : b.size = 0
        · have hE2 := isEmpty_of hzb
          have HZ2 := Lib.hid hzb
          clear hzb
          go_wp2_with fail
          go_ret
          exact ⟨by rw [HRD.out, if_neg (fun h => h.2.1 HZ2.out)]; rfl, hBel⟩
        · have hE2 := isEmpty_not hzb
          have HZ2 := Lib.hid hzb
          clear hzb
          cases hl : Op.bytesLess a.toList b.toList
          · have HL := Lib.hid hl
            go_wp2_with fail
            go_ret
            exact ⟨by rw [HRD.out, if_pos ⟨HZ.out, HZ2.out, HL.out⟩]; rfl, hBel⟩
          · have HL := Lib.hid hl
            go_wp2_with fail
            go_ret
            exact ⟨by rw [HRD.out, if_neg (fun h => by have := HL.out; rw [h.2.2] at this; cases this)]; rfl, hBel⟩
end Go.Proofs.YtgmdnmdniidngaaDoor

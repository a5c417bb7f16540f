/- place.ready, walked. Conditions: stated with each. -/
import Derived.Test.YtgmdnmdniidngaaDoorPlace
namespace Go.Proofs.YtgmdnmdniidngaaDoor
open Go.RowKit
set_option linter.unusedVariables false


def ReadyLoop (w : World) (a b : ByteArray) (v : Value) (wr : World) : Prop :=
  ∃ k : Nat, k ≤ 2 ∧ v = .int .i64 k ∧ wr.cell? ⟨w.heap.size, 0, none⟩ = some (.string a) ∧ wr.cell? ⟨w.heap.size, 1, none⟩ = some (.string b) ∧ w.heap.size < wr.heap.size ∧ Below w.heap.size w wr ∧
    Hid (1 ≤ k → a.size = 0 ∨ placeErr a = 0) ∧ Hid (2 ≤ k → b.size = 0 ∨ placeErr b = 0)
set_option maxRecDepth 100000 in
set_option maxHeartbeats 2000000 in
theorem ready_any (w : World) (a b : ByteArray) (ha : a.size ≤ 9223372036854775807) (hb : b.size ≤ 9223372036854775807) :
    Calls Tryd.prog 46 #[.string a, .string b] w (CheckPost w (errV (readyErr a b))) := by
  have HA := Lib.hid (fun w => check_any w a ha)
  have HB := Lib.hid (fun w => check_any w b hb)
  clear ha hb
  go_enter Tryd.func46, Tryd.ntmps46
  go_wp2_with fail
  go_loopw [12] (fun v wr => ReadyLoop w a b v wr) (fun v _ => (2 - (intOf v).toNat))
  case atStart => exact ⟨0, by omega, rfl, by simp [World.cell?_alloc_new], by simp [World.cell?_alloc_new], by simp, (Below.refl _ _).alloc (Nat.le_refl _) _, fun h => by omega, fun h => by omega⟩
  case round =>
    obtain ⟨k, hk, rfl, c0, c1, hlt, hBel, p0, p1⟩ := hrel
    rcases (show k = 0 ∨ k = 1 ∨ k = 2 by omega) with rfl | rfl | rfl
    · by_cases hz : a.size = 0
      · have hE := isEmpty_of hz
        have HZ := Lib.hid hz
        clear hz
        go_wp2_with fail
        go_roundw
        case rel => exact ⟨1, by omega, rfl, c0, c1, hlt, hBel, fun _ => .inl HZ.out, fun h => by omega⟩
        case measure => simp [intOf]
      · have hE := isEmpty_not hz
        have HZ := Lib.hid hz
        clear hz
        by_cases hp : placeErr a = 0
        · have HP := Lib.hid hp
          clear hp
          go_wp2_with fail
          refine (HA.out wr).mono ?_
          rintro e w1 ⟨rfl, hb1⟩
          rw [HP.out, show errV 0 = .nilIface from rfl]
          have d0 : w1.cell? ⟨w.heap.size, 0, none⟩ = some (.string a) := by rw [hb1.cell (by simpa using hlt)]; exact c0
          have d1 : w1.cell? ⟨w.heap.size, 1, none⟩ = some (.string b) := by rw [hb1.cell (by simpa using hlt)]; exact c1
          go_wp2_with fail
          go_roundw
          case rel => exact ⟨1, by omega, rfl, d0, d1, Nat.lt_of_lt_of_le hlt hb1.size, hBel.trans (hb1.mono (by omega)), fun _ => .inr HP.out, fun h => by omega⟩
          case measure => simp [intOf]
        · have HV := Lib.hid (errV_ne hp)
          have HP := Lib.hid hp
          clear hp
          go_wp2_with fail
          refine (HA.out wr).mono ?_
          rintro e w1 ⟨rfl, hb1⟩
          rw [HV.out]
          go_wp2_with fail
          go_ret
          refine ⟨?_, hBel.trans (hb1.mono (by omega))⟩
          rw [show readyErr a b = placeErr a from by unfold readyErr; rw [if_pos ⟨HZ.out, HP.out⟩], HV.out]
          rfl
    · have HK := Lib.hid (p0.out (by omega))
      clear p0 p1
      by_cases hz : b.size = 0
      · have hE := isEmpty_of hz
        have HZ := Lib.hid hz
        clear hz
        go_wp2_with fail
        go_roundw
        case rel => exact ⟨2, by omega, rfl, c0, c1, hlt, hBel, fun _ => HK.out, fun _ => .inl HZ.out⟩
        case measure => simp [intOf]
      · have hE := isEmpty_not hz
        have HZ := Lib.hid hz
        clear hz
        by_cases hp : placeErr b = 0
        · have HP := Lib.hid hp
          clear hp
          go_wp2_with fail
          refine (HB.out wr).mono ?_
          rintro e w1 ⟨rfl, hb1⟩
          rw [HP.out, show errV 0 = .nilIface from rfl]
          have d0 : w1.cell? ⟨w.heap.size, 0, none⟩ = some (.string a) := by rw [hb1.cell (by simpa using hlt)]; exact c0
          have d1 : w1.cell? ⟨w.heap.size, 1, none⟩ = some (.string b) := by rw [hb1.cell (by simpa using hlt)]; exact c1
          go_wp2_with fail
          go_roundw
          case rel => exact ⟨2, by omega, rfl, d0, d1, Nat.lt_of_lt_of_le hlt hb1.size, hBel.trans (hb1.mono (by omega)), fun _ => HK.out, fun _ => .inr HP.out⟩
          case measure => simp [intOf]
        · have HV := Lib.hid (errV_ne hp)
          have HP := Lib.hid hp
          clear hp
          go_wp2_with fail
          refine (HB.out wr).mono ?_
          rintro e w1 ⟨rfl, hb1⟩
          rw [HV.out]
          go_wp2_with fail
          go_ret
          refine ⟨?_, hBel.trans (hb1.mono (by omega))⟩
          rw [show readyErr a b = placeErr b from by unfold readyErr; rw [if_neg (fun h => by rcases HK.out with h1 | h1; exact h.1 h1; exact h.2 h1), if_pos ⟨HZ.out, HP.out⟩], HV.out]
          rfl
    · have HK := Lib.hid (p0.out (by omega))
      have HK2 := Lib.hid (p1.out (by omega))
      have hrd : readyErr a b = if a.size ≠ 0 ∧ b.size ≠ 0 ∧ Op.bytesLess a.toList b.toList = false then 3 else 0 := by
        unfold readyErr
        rw [if_neg (fun h => by rcases HK.out with h1 | h1; exact h.1 h1; exact h.2 h1), if_neg (fun h => by rcases HK2.out with h1 | h1; exact h.1 h1; exact h.2 h1)]
      have HRD := Lib.hid hrd
      clear p0 p1 hrd
      by_cases hza : a.size = 0
      · have hE := isEmpty_of hza
        have HZ := Lib.hid hza
        clear hza
        go_wp2_with fail
        go_ret
        exact ⟨by rw [HRD.out, if_neg (fun h => h.1 HZ.out)]; rfl, hBel⟩
      · have hE := isEmpty_not hza
        have HZ := Lib.hid hza
        clear hza
        by_cases hzb : b.size = 0
        · have hE2 := isEmpty_of hzb
          have HZ2 := Lib.hid hzb
          clear hzb
          go_wp2_with fail
          go_ret
          exact ⟨by rw [HRD.out, if_neg (fun h => h.2.1 HZ2.out)]; rfl, hBel⟩
        · have hE2 := isEmpty_not hzb
          have HZ2 := Lib.hid hzb
          clear hzb
          cases hl : Op.bytesLess a.toList b.toList
          · have HL := Lib.hid hl
            go_wp2_with fail
            go_ret
            exact ⟨by rw [HRD.out, if_pos ⟨HZ.out, HZ2.out, HL.out⟩]; rfl, hBel⟩
          · have HL := Lib.hid hl
            go_wp2_with fail
            go_ret
            exact ⟨by rw [HRD.out, if_neg (fun h => by have := HL.out; rw [h.2.2] at this; cases this)]; rfl, hBel⟩
end Go.Proofs.YtgmdnmdniidngaaDoor

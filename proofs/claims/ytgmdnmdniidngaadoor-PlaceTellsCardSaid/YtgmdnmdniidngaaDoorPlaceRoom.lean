/- place.Room, walked. Conditions: texts no longer than an int may count. -/
import Derived.Test.YtgmdnmdniidngaaDoorPlace4
namespace Go.Proofs.YtgmdnmdniidngaaDoor
open Go.RowKit
set_option linter.unusedVariables false

def RoomPost (w : World) (a b : ByteArray) (e : Ending) (w' : World) : Prop :=
  e = .returned (.tuple #[.int .i64 (if roomErr a b = 0 then ((quarter a b).length : Int) + 1 else 0), errV (roomErr a b)]) ∧ Below w.heap.size w w'

set_option maxRecDepth 100000 in
set_option maxHeartbeats 1000000 in
theorem room_any (w : World) (a b : ByteArray) (ha : a.size ≤ 9223372036854775807) (hb : b.size ≤ 9223372036854775807) :
    Calls Tryd.prog 21 #[.string a, .string b] w (RoomPost w a b) := by
  have HR := Lib.hid (ready_any w a b ha hb)
  clear ha hb
  by_cases h : readyErr a b = 0
  · obtain ⟨⟨k1, k2⟩, k3, k4⟩ := ready_ok h
    have HQ := Lib.hid (fun w => quarter_any w a b k1 k3 k2 k4)
    have hq := quarter_le a b
    have HH := Lib.hid h
    clear h k1 k2 k3 k4
    by_cases hn : quarter a b = []
    · have hroom : roomErr a b = 8 := by unfold roomErr; rw [if_neg (fun h => h HH.out), if_pos hn]
      have HRM := Lib.hid hroom
      have HN := Lib.hid hn
      clear hroom hn hq
      go_enter Tryd.func21, Tryd.ntmps21
      go_wp2_with fail
      refine HR.out.mono ?_
      rintro e w1 ⟨rfl, hb1⟩
      rw [HH.out, show errV 0 = .nilIface from rfl]
      go_wp2_with fail
      refine (HQ.out _).mono ?_
      rintro e w2 ⟨rfl, hb2⟩
      rw [HN.out, strOf_nil]
      go_wp2_with fail
      go_ret2
      exact ⟨by rw [HRM.out]; rfl, hb1.trans (hb2.mono hb1.size)⟩
    · have hroom : roomErr a b = 0 := by unfold roomErr; rw [if_neg (fun h => h HH.out), if_neg hn]
      have hE : (strOf (quarter a b)).toList.isEmpty = false := isEmpty_not (by rw [strOf_size]; exact fun h => hn (List.eq_nil_of_length_eq_zero h))
      have HRM := Lib.hid hroom
      have hsz := strOf_size (quarter a b)
      have hsz2 : (strOf (quarter a b)).size ≤ 11 := by omega
      have HSZ := Lib.hid hsz
      clear hroom hn hq hsz
      obtain ⟨q, hq⟩ : ∃ q, q = strOf (quarter a b) := ⟨_, rfl⟩
      rw [← hq] at hE hsz2
      have HQE := Lib.hid hq
      clear hq
      go_enter Tryd.func21, Tryd.ntmps21
      go_wp2_with fail
      refine HR.out.mono ?_
      rintro e w1 ⟨rfl, hb1⟩
      rw [HH.out, show errV 0 = .nilIface from rfl]
      go_wp2_with fail
      refine (HQ.out _).mono ?_
      rintro e w2 ⟨rfl, hb2⟩
      rw [← HQE.out]
      go_wp2_with fail
      go_ret2
      refine ⟨?_, hb1.trans (hb2.mono hb1.size)⟩
      have hs := HSZ.out
      rw [← HQE.out] at hs
      rw [if_pos HRM.out, HRM.out, ← hs]
      rfl
  · have hroom : roomErr a b = readyErr a b := by unfold roomErr; rw [if_pos h]
    have HV := Lib.hid (errV_ne h)
    have HRM := Lib.hid hroom
    have HH := Lib.hid h
    clear h hroom
    go_enter Tryd.func21, Tryd.ntmps21
    go_wp2_with fail
    refine HR.out.mono ?_
    rintro e w1 ⟨rfl, hb1⟩
    rw [HV.out]
    go_wp2_with fail
    go_ret2
    exact ⟨by rw [HRM.out, if_neg HH.out, HV.out]; rfl, hb1⟩
end Go.Proofs.YtgmdnmdniidngaaDoor

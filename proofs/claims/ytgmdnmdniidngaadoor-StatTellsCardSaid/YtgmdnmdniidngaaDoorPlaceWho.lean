/- place.Who, walked. Conditions: stated with each. -/
import Derived.Test.YtgmdnmdniidngaaDoorPlaceCheck
namespace Go.Proofs.YtgmdnmdniidngaaDoor
open Go.RowKit
set_option linter.unusedVariables false

def WhoPost (w : World) (s : ByteArray) (e : Ending) (w' : World) : Prop :=
  e = .returned (.tuple #[.int .i64 (if placeErr s = 0 then (byteAt s (s.size - 1) - 97 : Nat) else 0), errV (placeErr s)]) ∧ Below w.heap.size w w'
set_option maxRecDepth 100000 in
set_option maxHeartbeats 1000000 in
theorem who_any (w : World) (s : ByteArray) (hm : s.size ≤ 9223372036854775807) :
    Calls Tryd.prog 18 #[.string s] w (WhoPost w s) := by
  have HC := Lib.hid (check_any w s hm)
  by_cases h : placeErr s = 0
  · obtain ⟨k1, k2, k3⟩ := okPlace h
    have k5 := k3.1
    have e1 : byteAt s (s.size - 1) = (s[s.size - 1]'(by omega)).toNat := byteAt_in (by omega)
    have k4 : 97 ≤ (s[s.size - 1]'(by omega)).toNat := by have := k3.2.1; omega
    have E1 := Lib.hid e1
    have HH := Lib.hid h
    clear h e1 k2 k3
    go_enter Tryd.func18, Tryd.ntmps18
    go_wp2_with fail
    refine HC.out.mono ?_
    rintro e w' ⟨rfl, hb⟩
    rw [HH.out, show errV 0 = .nilIface from rfl]
    go_wp2_with fail
    go_ret2
    refine ⟨?_, hb⟩
    rw [if_pos HH.out, HH.out, E1.out]
    have : (((s[s.size - 1]'(by omega)).toNat - 97 : Nat) : Int) = ((s[s.size - 1]'(by omega)).toNat : Int) - 97 := by omega
    rw [this]
    have hlt := byteAt_lt s (s.size - 1)
    rw [E1.out] at hlt
    simp [errV]
    omega
  · have HV := Lib.hid (errV_ne h)
    have HH := Lib.hid h
    clear h
    go_enter Tryd.func18, Tryd.ntmps18
    go_wp2_with fail
    refine HC.out.mono ?_
    rintro e w' ⟨rfl, hb⟩
    rw [HV.out]
    go_wp2_with fail
    go_ret2
    exact ⟨by rw [if_neg HH.out, HV.out]; rfl, hb⟩
end Go.Proofs.YtgmdnmdniidngaaDoor

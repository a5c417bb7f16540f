/- marks.Places, walked. Conditions: places that an int may count. -/
import Derived.Test.YtpofdjikogoobaaDoorDir
import Derived.Test.YtpofdjikogoobaaDoorMarkLaw
namespace Go.Proofs.YtpofdjikogoobaaDoor
open Go.RowKit
set_option linter.unusedVariables false
/-- Texts and an error are given back. -/
def TxtsErr (w : World) (l : List ByteArray) (k : Int) (e : Ending) (w' : World) : Prop :=
  ∃ V c, e = .returned (.tuple #[.slice V l.length c, errV k]) ∧ Own w' w.heap.size 9 1 V l.length c (txts l) ∧ Below w.heap.size w w'
def giveT (k : Int) (l : List ByteArray) : List ByteArray := if k = 0 then l else []
theorem giveT_bad {k : Int} (h : k ≠ 0) (l : List ByteArray) : giveT k l = [] := if_neg h
set_option maxRecDepth 100000 in
theorem places_any (w : World) (A : Option Addr) (c : Nat) (l : List LMark) (h : Reads w w.heap.size 3 A l.length (mcells l)) (hs : MSized l) (hn : l.length ≤ 9223372036854775807) :
    Calls Tryd.prog 71 #[.slice A l.length c] w (TxtsErr w (giveT (marksErr l) (places l)) (marksErr l)) := by
  have HC := Lib.hid (marksCheck_any w A c l h hs hn)
  have HR := Lib.hid h
  clear h hs
  by_cases he : marksErr l = 0
  · have HE := Lib.hid he
    have hfew := (marks_ok' he).few
    have HSA := Lib.hid (fun W (hb : Below w.heap.size w W) => placesOf_any W A c l ((HR.out.below hb).more hb.size) hfew)
    clear he
    go_enter Tryd.func71, Tryd.ntmps71
    go_wp2_with fail
    refine HC.out.mono ?_
    rintro e w1 ⟨rfl, hb1⟩
    rw [HE.out, show errV 0 = .nilIface from rfl]
    have HB1 := Lib.hid hb1
    clear hb1
    go_wp2_with fail
    refine (HSA.out _ HB1.out).mono ?_
    rintro e w3 ⟨V, cv, rfl, hO, hb3⟩
    have HO := Lib.hid (hO.mono HB1.out.size)
    have HB3 := Lib.hid (HB1.out.trans (hb3.mono HB1.out.size))
    clear hO hb3
    go_wp2_with fail
    go_ret2
    rw [HE.out, giveT, if_pos rfl]
    exact ⟨V, cv, rfl, HO.out, HB3.out⟩
  · have HV := Lib.hid (errV_ne he)
    have HN := Lib.hid he
    clear he
    go_enter Tryd.func71, Tryd.ntmps71
    go_wp2_with fail
    refine HC.out.mono ?_
    rintro e w1 ⟨rfl, hb1⟩
    rw [HV.out]
    have HB1 := Lib.hid hb1
    clear hb1
    go_wp2_with fail
    go_ret2
    rw [giveT_bad HN.out, ← HV.out]
    exact ⟨none, 0, rfl, Own.nil _ _ _ _, HB1.out⟩
end Go.Proofs.YtpofdjikogoobaaDoor

/- dir.Locate, Slice, Of, where they refuse, walked. Conditions: leafs and marks can be read. -/
import Derived.Test.YteiadcdaleckjaaDoorDirs
namespace Go.Proofs.YteiadcdaleckjaaDoor
open Go.RowKit
set_option linter.unusedVariables false
section
variable {w : World} {A A2 : Option Addr} {c c2 : Nat} {l : List LLeaf} {m : List LMark}
set_option maxRecDepth 100000 in
set_option maxHeartbeats 2000000 in
theorem locate_bad (H : DirIn w A c l A2 c2 m) (h : dirErr l m ≠ 0) (off : Int) :
    Calls Tryd.prog 18 #[.slice A l.length c, .slice A2 m.length c2, .int .i64 off] w (fun e w' => e = .returned (.tuple #[.int .i64 0, .int .i64 0, errV (dirErr l m)]) ∧ Below w.heap.size w w') := by
  have HS := Lib.hid (stretches_bad H h)
  have HV := Lib.hid (errV_ne h)
  clear H h
  go_enter Tryd.func18, Tryd.ntmps18
  go_wp2_with fail
  refine HS.out.mono ?_
  rintro e w1 ⟨rfl, hb⟩
  rw [HV.out]
  have HB := Lib.hid hb
  clear hb
  go_wp2_with fail
  go_ret3
  exact ⟨by rw [HV.out]; rfl, HB.out⟩
set_option maxRecDepth 100000 in
set_option maxHeartbeats 2000000 in
theorem slice_bad (H : DirIn w A c l A2 c2 m) (h : dirErr l m ≠ 0) (i : Int) :
    Calls Tryd.prog 20 #[.slice A l.length c, .slice A2 m.length c2, .int .i64 i] w (SlicePost w ⟨#[]⟩ (dirErr l m)) := by
  have HS := Lib.hid (stretches_bad H h)
  have HV := Lib.hid (errV_ne h)
  clear H h
  go_enter Tryd.func20, Tryd.ntmps20
  go_wp2_with fail
  refine HS.out.mono ?_
  rintro e w1 ⟨rfl, hb⟩
  rw [HV.out]
  have HB := Lib.hid hb
  clear hb
  go_wp2_with fail
  go_ret2
  exact ⟨by rw [HV.out]; rfl, HB.out⟩
set_option maxRecDepth 100000 in
set_option maxHeartbeats 2000000 in
theorem slice_out (H : DirIn w A c l A2 c2 m) (h : dirErr l m = 0) (i : Int) (hi : i < 0 ∨ ((strL l (places m)).length : Int) ≤ i) :
    Calls Tryd.prog 20 #[.slice A l.length c, .slice A2 m.length c2, .int .i64 i] w (SlicePost w ⟨#[]⟩ 1) := by
  have HS := Lib.hid (stretches_ok H h)
  have HE1 := errV_ne (show (1 : Int) ≠ 0 by decide)
  clear H h
  generalize strL l (places m) = ss at *
  by_cases h0 : i < 0
  · clear hi
    go_enter Tryd.func20, Tryd.ntmps20
    go_wp2_with fail
    refine HS.out.mono ?_
    rintro e w1 ⟨V, cv, rfl, hO, hb⟩
    have HB := Lib.hid hb
    clear hb hO
    go_wp2_with fail
    go_ret2
    exact ⟨by rw [HE1]; rfl, HB.out⟩
  · have h1 : (ss.length : Int) ≤ i := by omega
    clear hi
    go_enter Tryd.func20, Tryd.ntmps20
    go_wp2_with fail
    refine HS.out.mono ?_
    rintro e w1 ⟨V, cv, rfl, hO, hb⟩
    have HB := Lib.hid hb
    clear hb hO
    go_wp2_with fail
    go_ret2
    exact ⟨by rw [HE1]; rfl, HB.out⟩
set_option maxRecDepth 100000 in
set_option maxHeartbeats 2000000 in
theorem of_bad (H : DirIn w A c l A2 c2 m) (h : dirErr l m ≠ 0) (p : ByteArray) :
    Calls Tryd.prog 22 #[.slice A l.length c, .slice A2 m.length c2, .string p] w (fun e w' => e = .returned (.tuple #[.int .i64 0, errV (dirErr l m)]) ∧ Below w.heap.size w w') := by
  have HS := Lib.hid (stretches_bad H h)
  have HV := Lib.hid (errV_ne h)
  clear H h
  go_enter Tryd.func22, Tryd.ntmps22
  go_wp2_with fail
  refine HS.out.mono ?_
  rintro e w1 ⟨rfl, hb⟩
  rw [HV.out]
  have HB := Lib.hid hb
  clear hb
  go_wp2_with fail
  go_ret2
  exact ⟨by rw [HV.out]; rfl, HB.out⟩
set_option maxRecDepth 100000 in
set_option maxHeartbeats 2000000 in
theorem of_place (H : DirIn w A c l A2 c2 m) (h : dirErr l m = 0) (p : ByteArray) (hp : placeErr p ≠ 0) (hps : p.size ≤ 9223372036854775807) :
    Calls Tryd.prog 22 #[.slice A l.length c, .slice A2 m.length c2, .string p] w (fun e w' => e = .returned (.tuple #[.int .i64 0, errV (placeErr p)]) ∧ Below w.heap.size w w') := by
  have HS := Lib.hid (stretches_ok H h)
  have HC := Lib.hid (fun w => check_any w p hps)
  have HV := Lib.hid (errV_ne hp)
  clear H h hp
  generalize strL l (places m) = ss at *
  go_enter Tryd.func22, Tryd.ntmps22
  go_wp2_with fail
  refine HS.out.mono ?_
  rintro e w1 ⟨V, cv, rfl, hO, hb⟩
  have HB := Lib.hid hb
  clear hb hO
  go_wp2_with fail
  refine (HC.out _).mono ?_
  rintro e w2 ⟨rfl, hb2⟩
  rw [HV.out]
  have HB2 := Lib.hid (HB.out.trans (hb2.mono HB.out.size))
  clear hb2
  go_wp2_with fail
  go_ret2
  exact ⟨by rw [HV.out]; rfl, HB2.out⟩
end
end Go.Proofs.YteiadcdaleckjaaDoor

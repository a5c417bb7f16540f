/- dir.Stretches, walked. -/
import Derived.Test.YteiadcdaleckjaaDoorDirAll
namespace Go.Proofs.YteiadcdaleckjaaDoor
open Go.RowKit
set_option linter.unusedVariables false

def dirErr (l : List LLeaf) (m : List LMark) : Int := if bookErr l ≠ 0 then bookErr l else marksErr m
theorem marks_few {m : List LMark} (h : marksErr m = 0) : m.length ≤ 40 := by
  unfold marksErr at h
  by_cases h1 : 40 < m.length
  · rw [if_pos h1] at h; omega
  · omega
/-- Stretches of leafs and marks that are right. -/
def StretchPost (w : World) (ss : List LStr) (e : Ending) (w' : World) : Prop :=
  ∃ (V : Option Addr) (cv : Nat), e = .returned (.tuple #[.slice V ss.length cv, .nilIface]) ∧ Own w' w.heap.size 46 3 V ss.length cv (scells ss) ∧ Below w.heap.size w w'
/-- What the four functions of dir are given. -/
structure DirIn (w : World) (A : Option Addr) (c : Nat) (l : List LLeaf) (A2 : Option Addr) (c2 : Nat) (m : List LMark) : Prop where
  rl : Reads w w.heap.size 3 A l.length (lcells l)
  rm : Reads w w.heap.size 3 A2 m.length (mcells m)
  sl : Sized l
  sm : MSized m
  nl : l.length ≤ 9223372036854775807
  nm : m.length ≤ 9223372036854775807
  cl : l.length ≤ c
section
variable {w w' : World} {A A2 : Option Addr} {c c2 : Nat} {l : List LLeaf} {m : List LMark}
theorem DirIn.below (h : DirIn w A c l A2 c2 m) (hb : Below w.heap.size w w') : DirIn w' A c l A2 c2 m :=
  ⟨(h.rl.below hb).more hb.size, (h.rm.below hb).more hb.size, h.sl, h.sm, h.nl, h.nm, h.cl⟩
theorem DirIn.drewN (h : DirIn w A c l A2 c2 m) (k : Nat) : DirIn (w.drewN k) A c l A2 c2 m := ⟨h.rl, h.rm, h.sl, h.sm, h.nl, h.nm, h.cl⟩
theorem DirIn.alloc (h : DirIn w A c l A2 c2 m) (o : Obj) : DirIn (w.alloc o) A c l A2 c2 m := h.below ((Below.refl _ _).alloc (Nat.le_refl _) o)
set_option maxRecDepth 100000 in
set_option maxHeartbeats 2000000 in
theorem stretches_ok (H : DirIn w A c l A2 c2 m) (h : dirErr l m = 0) :
    Calls Tryd.prog 16 #[.slice A l.length c, .slice A2 m.length c2] w (StretchPost w (strL l (places m))) := by
  have hb0 : bookErr l = 0 := by
    unfold dirErr at h
    by_cases h1 : bookErr l = 0
    · exact h1
    · rw [if_pos h1] at h; exact h
  have hm0 : marksErr m = 0 := by
    unfold dirErr at h; rw [if_neg (fun x => x hb0)] at h; exact h
  have ok := book_ok hb0
  have HI := Lib.hid H
  have HC := Lib.hid (fun w (H : DirIn w A c l A2 c2 m) => bookCheck_any w A c l H.rl H.sl H.nl)
  have HM := Lib.hid (fun w (H : DirIn w A c l A2 c2 m) => marksCheck_any w A2 c2 m H.rm H.sm H.nm)
  have HA := Lib.hid (fun w (H : DirIn w A c l A2 c2 m) => all_any w A c l H.rl ok.few H.cl ok.rising ok.fit A2 c2 m H.rm (marks_few hm0))
  have HB0 := Lib.hid hb0
  have HM0 := Lib.hid hm0
  clear H h hb0 hm0 ok
  go_enter Tryd.func16, Tryd.ntmps16
  go_wp2_with fail
  refine (HC.out _ HI.out).mono ?_
  rintro e w1 ⟨rfl, hb1⟩
  rw [HB0.out, show errV 0 = .nilIface from rfl]
  have HI1 := Lib.hid (HI.out.below hb1)
  have HB1 := Lib.hid hb1
  clear hb1
  go_wp2_with fail
  refine (HM.out _ HI1.out).mono ?_
  rintro e w2 ⟨rfl, hb2⟩
  rw [HM0.out, show errV 0 = .nilIface from rfl]
  have HI2 := Lib.hid (HI1.out.below hb2)
  have HB2 := Lib.hid (HB1.out.trans (hb2.mono HB1.out.size))
  clear hb2
  go_wp2_with fail
  refine (HA.out _ HI2.out).mono ?_
  rintro e w3 ⟨V, cv, rfl, hO, hb3⟩
  have HO := Lib.hid (hO.mono HB2.out.size)
  have HB3 := Lib.hid (HB2.out.trans (hb3.mono HB2.out.size))
  clear hb3 hO
  go_wp2_with fail
  go_ret2
  exact ⟨V, cv, rfl, HO.out, HB3.out⟩
def ErrPost (w : World) (n : Int) (e : Ending) (w' : World) : Prop := e = .returned (.tuple #[.slice none 0 0, errV n]) ∧ Below w.heap.size w w'
set_option maxRecDepth 100000 in
set_option maxHeartbeats 2000000 in
theorem stretches_bad (H : DirIn w A c l A2 c2 m) (h : dirErr l m ≠ 0) :
    Calls Tryd.prog 16 #[.slice A l.length c, .slice A2 m.length c2] w (ErrPost w (dirErr l m)) := by
  have HI := Lib.hid H
  have HC := Lib.hid (fun w (H : DirIn w A c l A2 c2 m) => bookCheck_any w A c l H.rl H.sl H.nl)
  have HM := Lib.hid (fun w (H : DirIn w A c l A2 c2 m) => marksCheck_any w A2 c2 m H.rm H.sm H.nm)
  have HV := Lib.hid (errV_ne h)
  by_cases hb0 : bookErr l = 0
  · have HE : Hid (marksErr m = dirErr l m) := by
      show _ = _
      unfold dirErr; rw [if_neg (fun x => x hb0)]
    have HB0 := Lib.hid hb0
    clear H h hb0
    go_enter Tryd.func16, Tryd.ntmps16
    go_wp2_with fail
    refine (HC.out _ HI.out).mono ?_
    rintro e w1 ⟨rfl, hb1⟩
    rw [HB0.out, show errV 0 = .nilIface from rfl]
    have HI1 := Lib.hid (HI.out.below hb1)
    have HB1 := Lib.hid hb1
    clear hb1
    go_wp2_with fail
    refine (HM.out _ HI1.out).mono ?_
    rintro e w2 ⟨rfl, hb2⟩
    rw [HE.out, HV.out]
    go_wp2_with fail
    go_ret2
    exact ⟨by rw [HV.out]; rfl, HB1.out.trans (hb2.mono HB1.out.size)⟩
  · have HE : Hid (bookErr l = dirErr l m) := by
      show _ = _
      unfold dirErr; rw [if_pos hb0]
    clear H h hb0
    go_enter Tryd.func16, Tryd.ntmps16
    go_wp2_with fail
    refine (HC.out _ HI.out).mono ?_
    rintro e w1 ⟨rfl, hb1⟩
    rw [HE.out, HV.out]
    go_wp2_with fail
    go_ret2
    exact ⟨by rw [HV.out]; rfl, hb1⟩
end
end Go.Proofs.YteiadcdaleckjaaDoor

/- leaflaw1.OpTells, walked. Conditions: the library's one variable holds what its text lays. -/
import Derived.Deep.CutBlock
import Derived.Test.YtlcjgldlblpboaaDoorOpenOps
import Derived.Test.YtlcjgldlblpboaaDoorPack
import Derived.Test.YtlcjgldlblpboaaDoorRefPack
import Derived.Test.YtlcjgldlblpboaaDoorRefUnpack
import Derived.Test.YtlcjgldlblpboaaDoorSameOps
import Derived.Test.YtlcjgldlblpboaaDoorTold
namespace Go.Proofs.YtlcjgldlblpboaaDoor
open Go.RowKit
set_option linter.unusedVariables false
namespace lawOpTells
def zeroL : LOp := ⟨⟨0, 0⟩, 0, ⟨#[]⟩, 0, []⟩
theorem opsErr_ne {l : List LOp} : ∀ {k : Nat}, opsErr (l.take k) ≠ 0 → opsErr l = opsErr (l.take k) := by
  induction l with
  | nil => intro k h; simp
  | cons a t ih =>
    intro k h
    cases k with
    | zero => exact absurd rfl h
    | succ k =>
      rw [List.take_succ_cons] at h ⊢
      unfold opsErr at h ⊢
      by_cases ha : opErr a = 0
      · rw [if_pos ha] at h
        rw [if_pos ha, if_pos ha]
        exact ih h
      · rw [if_neg ha, if_neg ha]
theorem opsErr_next {l : List LOp} {k : Nat} (hk : k < l.length) (h : opsErr (l.take k) = 0) : opsErr (l.take (k + 1)) = opErr l[k] := by
  rw [List.take_succ_eq_append_getElem hk, opsErr_append h]
  split
  · rename_i h1; rw [h1]; rfl
  · rfl
def kindE (b : Bool) : Int := if b = true then 0 else 2
/-- What a reader returns, its op. -/
def GotOp (w : World) (D : Option LOp) (v : Value) (k : Value) (e : Ending) (w' : World) : Prop :=
  ∃ A c X, e = .returned (.tuple #[.agg #[.int .i64 X.dot.who, .int .i64 X.dot.n, .int .i64 X.what, .string X.place, .int .i64 X.letter, .slice A X.seen.length c], k]) ∧ Hid (X = D.getD zeroL) ∧ Hid (Reads w' w'.heap.size 2 A X.seen.length (dcells X.seen)) ∧ Below w.heap.size w w'
theorem got_ref {w w' : World} {D : Option LOp} {v : Value} {e : Ending} (h : RDecPost w D e w') : GotOp w D v (.bool D.isSome) e w' := by
  cases D with
  | none =>
    obtain ⟨rfl, hb⟩ := h
    exact ⟨none, 0, zeroL, rfl, Lib.hid rfl, Lib.hid (Own.nil w' w.heap.size 23 2).reads, hb⟩
  | some o =>
    obtain ⟨A, c, rfl, ho, hb⟩ := h
    exact ⟨A, c, o, rfl, Lib.hid rfl, Lib.hid ho.reads, hb⟩
theorem got_prog {w w' : World} {D : Option LOp} {v : Value} {e : Ending} (h : DecPost w D e w') : GotOp w D v (errV (kindE D.isSome)) e w' := by
  cases D with
  | none =>
    obtain ⟨rfl, hb⟩ := h
    exact ⟨none, 0, zeroL, rfl, Lib.hid rfl, Lib.hid (Own.nil w' w.heap.size 23 2).reads, hb⟩
  | some o =>
    obtain ⟨A, c, rfl, ho, hb⟩ := h
    exact ⟨A, c, o, rfl, Lib.hid rfl, Lib.hid ho.reads, hb⟩
/-- A row of ops that reads, and so do its ops. -/
def RowOps (w : World) (A : Option Addr) (ys : List OpAt) : Prop := Reads w w.heap.size 6 A ys.length (ocells ys) ∧ (∀ y ∈ ys, Reads w w.heap.size 2 y.at_ y.op.seen.length (dcells y.op.seen)) ∧ ys.length ≤ 9223372036854775807 ∧ ∀ y ∈ ys, y.op.seen.length ≤ 9223372036854775807
theorem RowOps.below {w w' : World} {A : Option Addr} {ys : List OpAt} (h : RowOps w A ys) (hb : Below w.heap.size w w') : RowOps w' A ys :=
  ⟨(h.1.below hb).more hb.size, fun y hy => ((h.2.1 y hy).below hb).more hb.size, h.2.2.1, h.2.2.2⟩
theorem seen_few {l : List LOp} (h : opsErr l = 0) : ∀ o ∈ l, o.seen.length ≤ 40 := fun o ho => (opOk_of (opsErr_at h o ho)).few
theorem unpack_some {t : List UInt8} {l : List LOp} (h : unpackOf t = some l) : opsErr l = 0 ∧ l.length ≤ 400 := by
  obtain ⟨h1, _⟩ := pack_unpack h
  unfold packErr at h1
  split at h1
  · omega
  · exact ⟨h1, by omega⟩
def GotOps (w : World) (U : Option (List LOp)) (e : Ending) (w' : World) : Prop :=
  ∃ A c ys, e = .returned (.tuple #[.slice A ys.length c, errV (kindE U.isSome)]) ∧ Hid (ys.map OpAt.op = U.getD []) ∧ Hid (RowOps w' A ys) ∧ Below w.heap.size w w'
theorem gots_prog {w w' : World} {t : List UInt8} {e : Ending} (h : UnpPost w (unpackOf t) e w') : GotOps w (unpackOf t) e w' := by
  cases hU : unpackOf t with
  | none =>
    rw [hU] at h
    obtain ⟨rfl, hb⟩ := h
    exact ⟨none, 0, [], rfl, Lib.hid rfl, Lib.hid ⟨(Own.nil w' w.heap.size 26 6).reads, by simp, by simp, by simp⟩, hb⟩
  | some l =>
    rw [hU] at h
    obtain ⟨h1, h2⟩ := unpack_some hU
    obtain ⟨A, c, ys, rfl, hl, ho, hs, hb⟩ := h
    have e1 : ys.length = l.length := by rw [← hl, List.length_map]
    rw [← e1] at ho ⊢
    refine ⟨A, c, ys, rfl, Lib.hid hl, Lib.hid ⟨ho.reads, fun y hy => (hs y hy).1.reads, by omega, fun y hy => ?_⟩, hb⟩
    have := seen_few h1 y.op (by rw [← hl]; exact List.mem_map.2 ⟨y, hy, rfl⟩)
    omega
/-- What the document's reader returns. -/
def RGotOps (w : World) (U : Option (List LOp)) (e : Ending) (w' : World) : Prop :=
  ∃ A n c, e = .returned (.tuple #[.slice A n c, .bool U.isSome]) ∧ Hid (U.isSome = true → ∃ ys : List OpAt, n = ys.length ∧ ys.map OpAt.op = U.getD [] ∧ RowOps w' A ys) ∧ Below w.heap.size w w'
theorem gots_ref {w w' : World} {t : List UInt8} {e : Ending} (h : RUnpPost w (unpackOf t) e w') : RGotOps w (unpackOf t) e w' := by
  cases hU : unpackOf t with
  | none =>
    rw [hU] at h
    obtain ⟨A, n, c, rfl, hb⟩ := h
    exact ⟨A, n, c, rfl, Lib.hid (fun hh => by cases hh), hb⟩
  | some l =>
    rw [hU] at h
    obtain ⟨h1, h2⟩ := unpack_some hU
    obtain ⟨A, c, ys, rfl, hl, ho, hs, hb⟩ := h
    have e1 : ys.length = l.length := by rw [← hl, List.length_map]
    refine ⟨A, l.length, c, rfl, Lib.hid (fun _ => ⟨ys, e1.symm, hl, ?_⟩), hb⟩
    rw [← e1] at ho
    refine ⟨ho.reads, fun y hy => (hs y hy).reads, by omega, fun y hy => ?_⟩
    have := seen_few h1 y.op (by rw [← hl]; exact List.mem_map.2 ⟨y, hy, rfl⟩)
    omega
def ELoop (w : World) (l : List LOp) (v i : Value) (wr : World) : Prop := ∃ k : Nat, k ≤ l.length ∧ i = .int .i64 (k : Nat) ∧ v = .int .i64 (if 400 < l.length then 4 else opsErr (l.take k)) ∧ Hid (Below w.heap.size w wr)
theorem strOf_self (s : ByteArray) : strOf s.data.toList = s := by apply ByteArray.ext; simp [strOf]
set_option maxRecDepth 100000 in
set_option maxHeartbeats 8000000 in
theorem walk (w : World) (A : Option Addr) (ca : Nat) (o : LOp) (b : ByteArray) (B : Option Addr) (cb : Nat) (l : List OpAt) (c : ByteArray) (hglob : Glob w)
    (h0 : Reads w w.heap.size 2 A o.seen.length (dcells o.seen)) (hp : o.place.size ≤ 9223372036854775807) (hos : o.seen.length ≤ 9223372036854775807) (hbm : b.size ≤ 9223372036854775807)
    (h1 : Reads w w.heap.size 6 B l.length (ocells l)) (hg : ∀ y ∈ l, y.Good w) (hl : l.length ≤ 9223372036854775807) (hcm : c.size ≤ 9223372036854775807) :
    Calls Tryd.prog 3 #[o.val A ca, .string b, .slice B l.length cb, .string c] w (CheckPost w (.bool true)) := by
  obtain ⟨W0, hW0⟩ : ∃ W0, W0 = w.alloc (.cells (o.cells A ca) 26) := ⟨_, rfl⟩
  have HB0 : Hid (Below w.heap.size w W0) := by rw [hW0]; exact (Below.refl _ _).alloc (Nat.le_refl _) _
  have HX0 : Hid (Blk W0 w.heap.size 26 (o.cells A ca)) := by rw [hW0]; exact Blk.new w _ _
  have HR0 := Lib.hid h0
  have HR := Lib.hid h1
  have HG := Lib.hid hg
  have HGL := Lib.hid hglob
  have HEQ := Lib.hid (fun W k (hb : Below w.heap.size w W) => error_any W k k (HGL.out.below hb (Nat.le_refl _)))
  have HROP := Lib.hid (fun W (hb : Below w.heap.size w W) => rop_any W A ca o ((h0.below hb).more hb.size) hp)
  have HOP := Lib.hid (fun W (hb : Below w.heap.size w W) => opCheck_any W A ca o ((h0.below hb).more hb.size) hp)
  have HRB := Lib.hid (fun W (hb : Below w.heap.size w W) he => rbytes_any W A ca o ((h0.below hb).more hb.size) he)
  have HEN := Lib.hid (fun W (hb : Below w.heap.size w W) => encode_any W A ca o ((h0.below hb).more hb.size) hp)
  have HDR := Lib.hid (fun W => rdecode_any W b hbm)
  have HDP := Lib.hid (fun W => decode_any W b.data.toList)
  have HST : Hid (strOf b.data.toList = b) := strOf_self b
  rw [HST.out] at HDP
  have HUR := Lib.hid (fun W => runpack_any W c hcm)
  have HUP := Lib.hid (fun W => unpack_any W c.data.toList)
  have HSC : Hid (strOf c.data.toList = c) := strOf_self c
  rw [HSC.out] at HUP
  have HCEL : Hid (∀ W, Below W0.heap.size W0 W → W.cell? ⟨w.heap.size, 0, none⟩ = some (.int .i64 o.dot.who) ∧ W.cell? ⟨w.heap.size, 1, none⟩ = some (.int .i64 o.dot.n) ∧ W.cell? ⟨w.heap.size, 2, none⟩ = some (.int .i64 o.what) ∧ W.cell? ⟨w.heap.size, 3, none⟩ = some (.string o.place) ∧
      W.cell? ⟨w.heap.size, 4, none⟩ = some (.int .i64 o.letter) ∧ W.cell? ⟨w.heap.size, 5, none⟩ = some (.slice A o.seen.length ca)) := fun W hb => by
    have hx := HX0.out.below hb HX0.out.lt
    exact ⟨by rw [hx.cell]; rfl, by rw [hx.cell]; rfl, by rw [hx.cell]; rfl, by rw [hx.cell]; rfl, by rw [hx.cell]; rfl, by rw [hx.cell]; rfl⟩
  have HUW : Hid (∀ W, Below W0.heap.size W0 W → Below w.heap.size w W) := fun W hb => HB0.out.trans (hb.mono HB0.out.size)
  obtain ⟨i0, i1, i2, i3, i4, i5⟩ := HCEL.out W0 (Below.refl _ _)
  clear h0 h1 hg hglob hp hos hbm hcm HST HSC HX0
  obtain ⟨e0, he0⟩ : ∃ e0, e0 = opErr o := ⟨_, rfl⟩
  rw [← he0] at HROP HOP
  have HE0 := Lib.hid he0
  have hself : (e0 == e0) = true := by simp
  clear he0
  unfold LOp.val at *
  unfold LOp.cells at hW0
  go_enter Tryd.func3, Tryd.ntmps3
  go_upto_region 1 with (fail)
  rw [← hW0]
  clear hW0
  go_wp2_with fail
  refine (HROP.out W0 HB0.out).mono ?_
  rintro e w1 ⟨rfl, hb1⟩
  have HB1 := Lib.hid hb1
  clear hb1 i0 i1 i2 i3 i4 i5
  obtain ⟨i0, i1, i2, i3, i4, i5⟩ := HCEL.out w1 HB1.out
  go_wp2_with fail
  refine (HOP.out w1 (HUW.out _ HB1.out)).mono ?_
  rintro e w2 ⟨rfl, hb2⟩
  have HB2 : Hid (Below W0.heap.size W0 w2) := HB1.out.trans (hb2.mono HB1.out.size)
  clear hb2 HB1 i0 i1 i2 i3 i4 i5
  go_wp2_with fail
  refine (HEQ.out w2 e0 (HUW.out _ HB2.out)).mono ?_
  rintro e w3 ⟨rfl, hb3⟩
  rw [hself]
  have HB3 : Hid (Below W0.heap.size W0 w3) := HB2.out.trans (hb3.mono HB2.out.size)
  clear hb3 HB2
  obtain ⟨i0, i1, i2, i3, i4, i5⟩ := HCEL.out w3 HB3.out
  go_upto_if 35 with (fail)
  go_cut [11] (fun v wx => v = .string (encRes o) ∧ Hid (Below W0.heap.size W0 wx))
  case first =>
    by_cases hz : e0 = 0
    · have q1 : (e0 == 0) = true := by simpa using hz
      have hz' : opErr o = 0 := HE0.out.symm.trans hz
      have HER : Hid (encRes o = strOf (opBytes o)) := by show _ = _; rw [encRes, if_pos hz']
      have HB := Lib.hid (HRB.out w3 (HUW.out _ HB3.out) hz')
      clear hz hz'
      go_wp2_with fail
      refine HB.out.mono ?_
      rintro e w4 ⟨rfl, hb4⟩
      have HB4 : Hid (Below W0.heap.size W0 w4) := HB3.out.trans (hb4.mono HB3.out.size)
      clear hb4
      go_wp2_with fail
      go_meet
      case rel => exact ⟨by rw [HER.out], HB4⟩
    · have q1 : (e0 == 0) = false := by simpa using hz
      have HER : Hid (encRes o = ⟨#[]⟩) := by show _ = _; rw [encRes, if_neg (fun h => hz (HE0.out.trans h))]
      clear hz
      go_wp2_with fail
      go_meet
      case rel => exact ⟨by rw [HER.out], HB3⟩
  case rest =>
    obtain ⟨rfl, HB4⟩ := hcut
    clear HB3 i0 i1 i2 i3 i4 i5
    obtain ⟨i0, i1, i2, i3, i4, i5⟩ := HCEL.out _ HB4.out
    obtain ⟨wt, hwt⟩ : ∃ wt, wt = encRes o := ⟨_, rfl⟩
    have HENC := Lib.hid (HEN.out _ (HUW.out _ HB4.out))
    unfold EncPost at HENC
    rw [← hwt, ← HE0.out] at HENC
    rw [← hwt]
    have hwself : (wt.toList == wt.toList) = true := BEq.rfl
    clear hwt HEN HRB HROP HOP
    go_wp2_with fail
    refine HENC.out.mono ?_
    rintro e w5 ⟨rfl, hb5⟩
    have HB5 : Hid (Below W0.heap.size W0 w5) := HB4.out.trans (hb5.mono HB4.out.size)
    clear hb5 HB4 HENC i0 i1 i2 i3 i4 i5
    go_wp2_with fail
    refine (HEQ.out w5 e0 (HUW.out _ HB5.out)).mono ?_
    rintro e w6 ⟨rfl, hb6⟩
    rw [hself]
    have HB6 : Hid (Below W0.heap.size W0 w6) := HB5.out.trans (hb6.mono HB5.out.size)
    clear hb6 HB5
    go_wp2_with fail
    obtain ⟨D, hD⟩ : ∃ D, D = decOf b := ⟨_, rfl⟩
    rw [← hD] at HDR HDP
    have HDF : Hid (∀ q, D = some q → q.seen.length ≤ 40) := fun q hq => (opOk_of (dec_some (hD.symm.trans hq)).1).few
    clear hD
    refine (HDR.out w6).mono ?_
    intro e w7 hpost
    obtain ⟨XA, xc, X, rfl, HX, HXR, hb7⟩ := got_ref (v := .nilIface) hpost
    have HB7 : Hid (Below W0.heap.size W0 w7) := HB6.out.trans (hb7.mono HB6.out.size)
    clear hpost hb7 HB6
    obtain ⟨W8, hW8⟩ : ∃ W8, W8 = w7.alloc (.cells (X.cells XA xc) 26) := ⟨_, rfl⟩
    obtain ⟨g8, hg8⟩ : ∃ g8, g8 = w7.heap.size := ⟨_, rfl⟩
    have HB8 : Hid (Below W0.heap.size W0 W8) := by rw [hW8]; exact HB7.out.alloc HB7.out.size _
    have HX8 : Hid (Blk W8 g8 26 (X.cells XA xc)) := by rw [hW8, hg8]; exact Blk.new w7 _ _
    have HXR8 : Hid (Reads W8 W8.heap.size 2 XA X.seen.length (dcells X.seen)) := by rw [hW8]; exact (HXR.out.below ((Below.refl _ _).alloc (Nat.le_refl _) _)).more (by simp)
    unfold LOp.cells at hW8
    clear HXR HB7
    go_upto_region 10 with (fail)
    rw [← hW8, ← hg8]
    clear hW8 hg8
    obtain ⟨ds, hds⟩ : ∃ ds : Bool, ds = D.isSome := ⟨_, rfl⟩
    rw [← hds]
    have HDSM := Lib.hid hds
    clear hds
    go_upto_if 52 with (fail)
    go_cut [9] (fun v wx => v = .int .i64 (kindE ds) ∧ Hid (wx = W8))
    case first =>
      cases ds with
      | true =>
        go_wp2_with fail
        go_meet
        case rel => exact ⟨rfl, Lib.hid rfl⟩
      | false =>
        go_wp2_with fail
        go_meet
        case rel => exact ⟨rfl, Lib.hid rfl⟩
    case rest =>
      obtain ⟨rfl, HW⟩ := hcut
      obtain rfl := HW.out
      clear HW
      go_wp2_with fail
      refine (HDP.out _).mono ?_
      intro e w9 hpost
      obtain ⟨YA, yc, Y, rfl, HY, HYR, hb9⟩ := got_prog (v := .nilIface) hpost
      rw [← HDSM.out]
      obtain ⟨ek, hek⟩ : ∃ ek, ek = kindE ds := ⟨_, rfl⟩
      rw [← hek]
      clear hek
      have HB9 : Hid (Below W0.heap.size W0 w9) := HB8.out.trans (hb9.mono HB8.out.size)
      have HX9 := Lib.hid (HX8.out.below hb9 HX8.out.lt)
      have HXR9 := Lib.hid ((HXR8.out.below hb9).more hb9.size)
      clear hpost hb9 HB8 HX8 HXR8 HDP HDR
      obtain ⟨W10, hW10⟩ : ∃ W10, W10 = w9.alloc (.cells (Y.cells YA yc) 26) := ⟨_, rfl⟩
      obtain ⟨g10, hg10⟩ : ∃ g10, g10 = w9.heap.size := ⟨_, rfl⟩
      have HB10 : Hid (Below W0.heap.size W0 W10) := by rw [hW10]; exact HB9.out.alloc HB9.out.size _
      have HX10 : Hid (Blk W10 g8 26 (X.cells XA xc)) := by rw [hW10]; exact HX9.out.alloc _
      have HY10 : Hid (Blk W10 g10 26 (Y.cells YA yc)) := by rw [hW10, hg10]; exact Blk.new w9 _ _
      have HXR10 : Hid (Reads W10 W10.heap.size 2 XA X.seen.length (dcells X.seen)) := by rw [hW10]; exact (HXR9.out.below ((Below.refl _ _).alloc (Nat.le_refl _) _)).more (by simp)
      have HYR10 : Hid (Reads W10 W10.heap.size 2 YA Y.seen.length (dcells Y.seen)) := by rw [hW10]; exact (HYR.out.below ((Below.refl _ _).alloc (Nat.le_refl _) _)).more (by simp)
      unfold LOp.cells at hW10
      clear HXR9 HX9 HB9 HYR
      go_upto_region 13 with (fail)
      rw [← hW10, ← hg10]
      clear hW10 hg10
      go_wp2_with fail
      refine (HEQ.out W10 ek (HUW.out _ HB10.out)).mono ?_
      rintro e w11 ⟨rfl, hb11⟩
      rw [show (ek == ek) = true by simp]
      have HB11 : Hid (Below W0.heap.size W0 w11) := HB10.out.trans (hb11.mono HB10.out.size)
      have HXY : Hid (Y = X) := HY.out.trans HX.out.symm
      have hX11 := HX10.out.below hb11 HX10.out.lt
      have hY11 := HY10.out.below hb11 HY10.out.lt
      have x0 : w11.cell? ⟨g8, 0, none⟩ = some (.int .i64 X.dot.who) := by rw [hX11.cell]; rfl
      have x1 : w11.cell? ⟨g8, 1, none⟩ = some (.int .i64 X.dot.n) := by rw [hX11.cell]; rfl
      have x2 : w11.cell? ⟨g8, 2, none⟩ = some (.int .i64 X.what) := by rw [hX11.cell]; rfl
      have x3 : w11.cell? ⟨g8, 3, none⟩ = some (.string X.place) := by rw [hX11.cell]; rfl
      have x4 : w11.cell? ⟨g8, 4, none⟩ = some (.int .i64 X.letter) := by rw [hX11.cell]; rfl
      have x5 : w11.cell? ⟨g8, 5, none⟩ = some (.slice XA X.seen.length xc) := by rw [hX11.cell]; rfl
      have y0 : w11.cell? ⟨g10, 0, none⟩ = some (.int .i64 Y.dot.who) := by rw [hY11.cell]; rfl
      have y1 : w11.cell? ⟨g10, 1, none⟩ = some (.int .i64 Y.dot.n) := by rw [hY11.cell]; rfl
      have y2 : w11.cell? ⟨g10, 2, none⟩ = some (.int .i64 Y.what) := by rw [hY11.cell]; rfl
      have y3 : w11.cell? ⟨g10, 3, none⟩ = some (.string Y.place) := by rw [hY11.cell]; rfl
      have y4 : w11.cell? ⟨g10, 4, none⟩ = some (.int .i64 Y.letter) := by rw [hY11.cell]; rfl
      have y5 : w11.cell? ⟨g10, 5, none⟩ = some (.slice YA Y.seen.length yc) := by rw [hY11.cell]; rfl
      have hsl : X.seen.length ≤ 40 := by
        rw [HX.out]
        cases hD : D with
        | none => simp [zeroL]
        | some q => exact HDF.out q hD
      have HSO := Lib.hid (SameOp.any w11 Y X YA XA yc xc ((HYR10.out.below hb11).more hb11.size) ((HXR10.out.below hb11).more hb11.size) (by rw [HXY.out]; omega) (by omega))
      rw [show decide (Y = X) = true by rw [HXY.out]; simp] at HSO
      unfold LOp.val at HSO
      clear hb11 HB10 HX10 HY10 HXR10 HYR10 hX11 hY11 HXY hsl
      go_wp2_with fail
      refine HSO.out.mono ?_
      rintro e w12 ⟨rfl, hb12⟩
      have HB12 : Hid (Below w.heap.size w w12) := HUW.out _ (HB11.out.trans (hb12.mono HB11.out.size))
      clear hb12 HB11 HSO x0 x1 x2 x3 x4 x5 y0 y1 y2 y3 y4 y5 HX HY HDF
      go_upto_region 15 with (fail)
      obtain ⟨lo, hlo⟩ : ∃ lo, lo = l.map OpAt.op := ⟨_, rfl⟩
      have hll : lo.length = l.length := by rw [hlo, List.length_map]
      have HLL := Lib.hid hll
      have HLO := Lib.hid hlo
      clear hll hlo
      go_upto_if 66 with (fail)
      go_cut [9] (fun v wx => v = .int .i64 (if 400 < lo.length then 4 else opsErr (lo.take 0)) ∧ Hid (wx = w12))
      case first =>
        by_cases h4 : 400 < l.length
        · have k4 : (400 : Int) < (l.length : Int) := by omega
          have HQ : Hid ((if 400 < lo.length then (4 : Int) else opsErr (lo.take 0)) = 4) := by show _ = _; rw [if_pos (by rw [HLL.out]; exact h4)]
          clear h4
          go_wp2_with fail
          go_meet
          case rel => exact ⟨by rw [HQ.out], Lib.hid rfl⟩
        · have k4 : ¬ (400 : Int) < (l.length : Int) := by omega
          have HQ : Hid ((if 400 < lo.length then (4 : Int) else opsErr (lo.take 0)) = 0) := by show _ = _; rw [if_neg (by rw [HLL.out]; exact h4)]; rfl
          clear h4
          go_wp2_with fail
          go_meet
          case rel => exact ⟨by rw [HQ.out], Lib.hid rfl⟩
      case rest =>
        obtain ⟨hv9, HW⟩ := hcut
        obtain rfl := HW.out
        clear HW
        obtain ⟨ez, hez⟩ : ∃ ez : Value, ez = .int .i64 (if 400 < lo.length then 4 else opsErr (lo.take 0)) := ⟨_, rfl⟩
        rw [← hez] at hv9
        subst hv9
        have HEZ := Lib.hid hez
        clear hez
        go_upto_block 0 with (fail)
        go_cut [9] (fun v wx => v = .int .i64 (packErr lo) ∧ Hid (Below w.heap.size w wx))
        case first =>
          go_wp2_with fail
          go_loopw [9, 20] (fun v i wr => ELoop w lo v i wr) (fun v i _ => l.length - (intOf i).toNat)
          case atStart => exact ⟨0, Nat.zero_le _, rfl, HEZ.out, HB12⟩
          case round =>
            obtain ⟨k, hk, rfl, hv, HB⟩ := hrel
            rw [HLL.out] at hk
            obtain ⟨q, hq⟩ : ∃ q : Int, q = if 400 < lo.length then 4 else opsErr (lo.take k) := ⟨_, rfl⟩
            rw [← hq] at hv
            subst hv
            have HQ := Lib.hid hq
            clear hq
            have k0 : (0 : Int) ≤ (k : Int) := by omega
            by_cases hkn : k < l.length
            · have k1 : (k : Int) < (l.length : Int) := by omega
              by_cases hq0 : q = 0
              · have h4 : ¬ 400 < lo.length := fun h => by have := HQ.out; rw [if_pos h] at this; omega
                have hz : opsErr (lo.take k) = 0 := by have := HQ.out; rw [if_neg h4] at this; omega
                have HN : Hid ((if 400 < lo.length then (4 : Int) else opsErr (lo.take (k + 1))) = opErr l[k].op) := by
                  show _ = _
                  rw [if_neg h4, opsErr_next (by rw [HLL.out]; exact hkn) hz]
                  congr 1
                  simp only [HLO.out, List.getElem_map]
                obtain ⟨ad, rfl, hab, c0, c1, c2, c3, c4, c5⟩ := ((HR.out.below HB.out).more HB.out.size).op hkn
                have hgk := (HG.out _ (List.getElem_mem hkn)).below HB.out
                have HO := Lib.hid (rop_any wr l[k].at_ l[k].cap l[k].op hgk.1 (by have := hgk.2.1; unfold maxLen at this; omega))
                subst hq0
                clear h4 hz hgk
                generalize l[k] = y at *
                obtain ⟨⟨⟨d1, d2⟩, o2, o3, o4, o5⟩, yA, yc⟩ := y
                unfold LOp.val at HO
                simp only at HO c0 c1 c2 c3 c4 c5
                go_wp2_with fail
                refine HO.out.mono ?_
                rintro e w13 ⟨rfl, hb13⟩
                have HB13 : Hid (Below w.heap.size w w13) := HB.out.trans (hb13.mono HB.out.size)
                clear hb13 c0 c1 c2 c3 c4 c5 HO
                go_wp2_with fail
                go_roundw
                case rel => exact ⟨k + 1, by rw [HLL.out]; omega, by go_num, by rw [HN.out], HB13⟩
                case measure => simp [intOf]; omega
              · have hq1 : (q == 0) = false := by simpa using hq0
                have HF : Hid (packErr lo = q) := by
                  show _ = _
                  have hh := HQ.out
                  unfold packErr
                  by_cases h4 : 400 < lo.length
                  · rw [if_pos h4] at hh ⊢; exact hh.symm
                  · rw [if_neg h4] at hh ⊢
                    rw [opsErr_ne (k := k) (by rw [← hh]; exact hq0), hh]
                clear hq0
                go_wp2_with fail
                go_meet
                case rel => exact ⟨by rw [HF.out], HB⟩
            · have k1 : ¬ (k : Int) < (l.length : Int) := by omega
              have HF : Hid (packErr lo = q) := by
                show _ = _
                have hh := HQ.out
                rw [List.take_of_length_le (by rw [HLL.out]; omega)] at hh
                unfold packErr
                exact hh.symm
              clear hkn
              go_wp2_with fail
              go_meet
              case rel => exact ⟨by rw [HF.out], HB⟩
        case rest =>
          obtain ⟨rfl, HB14⟩ := hcut
          clear HB12
          obtain ⟨pe, hpe⟩ : ∃ pe, pe = packErr lo := ⟨_, rfl⟩
          have HPE := Lib.hid hpe
          rw [← hpe]
          clear hpe
          have hpself : (pe == pe) = true := by simp
          go_upto_if 83 with (fail)
          go_cut [21] (fun v wx => v = .string (packRes lo) ∧ Hid (Below w.heap.size w wx))
          case first =>
            by_cases hz : pe = 0
            · have q1 : (pe == 0) = true := by simpa using hz
              have hz' : packErr lo = 0 := HPE.out.symm.trans hz
              have h4 : ¬ 400 < lo.length := fun h => by unfold packErr at hz'; rw [if_pos h] at hz'; omega
              have hz2 : opsErr (l.map OpAt.op) = 0 := by unfold packErr at hz'; rw [if_neg h4, HLO.out] at hz'; exact hz'
              have HER : Hid (packRes lo = strOf (packBytes (l.map OpAt.op))) := by show _ = _; rw [packRes, if_pos hz', HLO.out]
              have HP := Lib.hid (rpack_any _ B cb l ((HR.out.below HB14.out).more HB14.out.size) (fun y hy => ((HG.out y hy).below HB14.out).1) (by rw [← HLL.out]; omega) hz2)
              clear hz hz' h4 hz2
              go_wp2_with fail
              refine HP.out.mono ?_
              rintro e w15 ⟨rfl, hb15⟩
              have HB15 : Hid (Below w.heap.size w w15) := HB14.out.trans (hb15.mono HB14.out.size)
              clear hb15
              go_wp2_with fail
              go_meet
              case rel => exact ⟨by rw [HER.out], HB15⟩
            · have q1 : (pe == 0) = false := by simpa using hz
              have HER : Hid (packRes lo = ⟨#[]⟩) := by show _ = _; rw [packRes, if_neg (fun h => hz (HPE.out.trans h))]
              clear hz
              go_wp2_with fail
              go_meet
              case rel => exact ⟨by rw [HER.out], HB14⟩
          case rest =>
            obtain ⟨rfl, HB15⟩ := hcut
            clear HB14
            obtain ⟨pr, hpr⟩ : ∃ pr, pr = packRes lo := ⟨_, rfl⟩
            have HPK := Lib.hid (pack_any _ B cb l ((HR.out.below HB15.out).more HB15.out.size) (fun y hy => ⟨((HG.out y hy).below HB15.out).1, by have := (HG.out y hy).2.1; unfold maxLen at this; omega⟩) hl)
            unfold PackPost at HPK
            rw [← HLO.out, ← hpr, ← HPE.out] at HPK
            rw [← hpr]
            have hprself : (pr.toList == pr.toList) = true := BEq.rfl
            clear hpr
            go_wp2_with fail
            refine HPK.out.mono ?_
            rintro e w16 ⟨rfl, hb16⟩
            have HB16 : Hid (Below w.heap.size w w16) := HB15.out.trans (hb16.mono HB15.out.size)
            clear hb16 HB15 HPK
            go_wp2_with fail
            refine (HEQ.out w16 pe HB16.out).mono ?_
            rintro e w17 ⟨rfl, hb17⟩
            rw [hpself]
            have HB17 : Hid (Below w.heap.size w w17) := HB16.out.trans (hb17.mono HB16.out.size)
            clear hb17 HB16
            go_wp2_with fail
            refine (HUR.out w17).mono ?_
            intro e w18 hpost
            obtain ⟨UA, un, uc, rfl, HU, hb18⟩ := gots_ref hpost
            have HB18 : Hid (Below w.heap.size w w18) := HB17.out.trans (hb18.mono HB17.out.size)
            clear hpost hb18 HB17 HUR
            obtain ⟨ut, hut⟩ : ∃ ut, ut = (unpackOf c.data.toList).getD [] := ⟨_, rfl⟩
            obtain ⟨us, hus⟩ : ∃ us, us = (unpackOf c.data.toList).isSome := ⟨_, rfl⟩
            have HUS := Lib.hid hus
            have HUT := Lib.hid hut
            rw [← hut, ← hus] at HU
            rw [← hus]
            have HUN : Hid (us = false → ut = []) := fun h => by
              rw [hut]
              rw [h] at hus
              cases hq : unpackOf c.data.toList with
              | none => rfl
              | some x => rw [hq] at hus; cases hus
            clear hut hus
            go_upto_region 28 with (fail)
            go_upto_if 100 with (fail)
            go_cut [9, 24] (fun v u wx => v = .int .i64 (kindE us) ∧ (∃ ys A c, u = .slice A ys.length c ∧ Hid (ys.map OpAt.op = ut) ∧ Hid (RowOps wx A ys)) ∧ Hid (wx = w18))
            case first =>
              cases us with
              | true =>
                obtain ⟨ys, rfl, hys, hrow⟩ := HU.out rfl
                go_wp2_with fail
                go_meet
                case rel => exact ⟨rfl, ⟨ys, UA, uc, rfl, Lib.hid hys, Lib.hid hrow⟩, Lib.hid rfl⟩
              | false =>
                have HE := HUN.out rfl
                go_wp2_with fail
                go_meet
                case rel => exact ⟨rfl, ⟨[], none, 0, rfl, Lib.hid HE.symm, Lib.hid ⟨(Own.nil w18 w18.heap.size 26 6).reads, by simp, by simp, by simp⟩⟩, Lib.hid rfl⟩
            case rest =>
              obtain ⟨rfl, ⟨ys, YA2, yc2, rfl, HYS, HYR⟩, HW⟩ := hcut
              obtain rfl := HW.out
              clear HW HU HUN
              go_wp2_with fail
              refine (HUP.out _).mono ?_
              intro e w19 hpost
              obtain ⟨ZA, zc, zs, rfl, HZS, HZR, hb19⟩ := gots_prog hpost
              rw [← HUS.out]
              rw [← HUT.out] at HZS
              obtain ⟨ek2, hek⟩ : ∃ ek2, ek2 = kindE us := ⟨_, rfl⟩
              rw [← hek]
              have HB19 : Hid (Below w.heap.size w w19) := HB18.out.trans (hb19.mono HB18.out.size)
              have HYR19 := Lib.hid (HYR.out.below hb19)
              clear hpost hb19 HB18 HYR hek HUP
              go_wp2_with fail
              refine (HEQ.out w19 ek2 HB19.out).mono ?_
              rintro e w20 ⟨rfl, hb20⟩
              rw [show (ek2 == ek2) = true by simp]
              have HB20 : Hid (Below w.heap.size w w20) := HB19.out.trans (hb20.mono HB19.out.size)
              have hy := HYR19.out.below hb20
              have hz := HZR.out.below hb20
              have HSO := Lib.hid (SameOps.any w20 ZA YA2 zc yc2 zs ys hz.1 hy.1 (fun y h => ⟨hz.2.1 y h, hz.2.2.2 y h⟩) (fun y h => ⟨hy.2.1 y h, hy.2.2.2 y h⟩) hz.2.2.1 hy.2.2.1)
              rw [show decide (zs.map OpAt.op = ys.map OpAt.op) = true by rw [HZS.out, HYS.out]; simp] at HSO
              clear hb20 HB19 HYR19 HZR hy hz HZS HYS
              go_wp2_with fail
              refine HSO.out.mono ?_
              rintro e w21 ⟨rfl, hb21⟩
              have HB21 : Hid (Below w.heap.size w w21) := HB20.out.trans (hb21.mono HB20.out.size)
              clear hb21 HB20 HSO
              go_wp2_with fail
              go_ret
              exact ⟨by simp, HB21.out⟩
end lawOpTells
end Go.Proofs.YtlcjgldlblpboaaDoor

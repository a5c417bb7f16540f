/- 6 texts in one: each says ahead of itself what is proved, and its conditions. -/
import Derived.Deep.RegionHeld3
import Derived.Test.YthfbjfocmnikaaaGreatDoorDocHelp
import Derived.Test.YthfbjfocmnikaaaGreatDoorDocOps
import Derived.Test.YthfbjfocmnikaaaGreatDoorKeepSc
import Derived.Test.YthfbjfocmnikaaaGreatDoorOpenOps
import Derived.Test.YthfbjfocmnikaaaGreatDoorPlay
import Derived.Test.YthfbjfocmnikaaaGreatDoorRefCopyAt
import Derived.Test.YthfbjfocmnikaaaGreatDoorRefIn
import Derived.Test.YthfbjfocmnikaaaGreatDoorRefText
import Derived.Test.YthfbjfocmnikaaaGreatDoorRise
import Derived.Test.YthfbjfocmnikaaaGreatDoorSame0
import Derived.Test.YthfbjfocmnikaaaGreatDoorShelfCmp
/- leafsame.Dots, walked. Conditions: few elements. -/
namespace Go.Proofs.YthfbjfocmnikaaaGreatDoor
open Go.RowKit
set_option linter.unusedVariables false
namespace SameDots
instance dec : DecidableEq LDot := fun a b => by
  cases a; cases b
  simp only [LDot.mk.injEq]
  exact inferInstance
set_option maxRecDepth 100000 in
theorem eq_one (W : World) (x0 y0 : Int) (x1 y1 : Int) : (Op.equalIn 10000 27 (.agg #[.int .i64 x0, .int .i64 x1]) (.agg #[.int .i64 y0, .int .i64 y1])).run Tryz.prog W = .ok (x0 == y0 && (x1 == y1)) W := by
  have ui := Tryz.underlying3
  have hS : Tryz.prog.underlying 27 = some (.struct (Tryz.prog.fieldsOf 27)) := by kernel_rfl
  have hp : Tryz.prog.stoodInHeld 27 = false := by kernel_rfl
  rw [show (10000 : Nat) = 9999 + 1 from rfl, run_equalIn_agg W 9999 27 _ _ hS hp]
  simp only [Program.fieldsOf, Tryz.underlying27]
  go_simp
  by_cases h0 : x0 = y0 <;> by_cases h1 : x1 = y1 <;> simp [h0, h1]
theorem same_one {x0 y0 : Int} {x1 y1 : Int} : (x0 == y0 && (x1 == y1)) = decide ((⟨x0, x1⟩ : LDot) = ⟨y0, y1⟩) := by
  rw [Bool.eq_iff_iff]
  simp only [Bool.and_eq_true, beq_iff_eq, decide_eq_true_eq, LDot.mk.injEq]
def Loop (w : World) (l m : List LDot) (i : Value) (wr : World) : Prop :=
  ∃ k : Nat, k ≤ l.length ∧ i = .int .i64 k ∧ Hid (Below w.heap.size w wr) ∧ Hid (decide (l = m) = decide (l.drop k = m.drop k))
set_option maxRecDepth 100000 in
set_option maxHeartbeats 1000000 in
theorem any_big (w : World) (A G : Option Addr) (ca cg : Nat) (l m : List LDot) (h1 : Reads w w.heap.size 2 A l.length (dcells l)) (h2 : Reads w w.heap.size 2 G m.length (dcells m)) (hl : l.length ≤ 9223372036854775807) (hm : m.length ≤ 9223372036854775807) :
    Calls Tryz.prog 43 #[.slice A l.length ca, .slice G m.length cg] w (SamePost w (decide (l = m))) := by
  have HR := Lib.hid h1
  have HS := Lib.hid h2
  clear h1 h2
  by_cases hlm : l.length = m.length
  · have HLM := Lib.hid hlm
    have e0 : ((l.length : Int) != (m.length : Int)) = false := by simp [hlm]
    have e1 : ((l.length : Int) == (m.length : Int)) = true := by simp [hlm]
    clear hlm
    go_enter Tryz.func43, Tryz.ntmps43
    go_wp2_with fail
    go_loopw [5] (fun i wr => Loop w l m i wr) (fun i _ => l.length - (intOf i).toNat)
    case atStart => exact ⟨0, by omega, rfl, Below.refl _ _, Lib.hid rfl⟩
    case round =>
      obtain ⟨k, hk, rfl, HB, HE⟩ := hrel
      by_cases hkn : k < l.length
      · have hkm : k < m.length := by have := HLM.out; omega
        obtain ⟨ad, hA, _, c0, c1⟩ := (HR.out.below HB.out).dot hkn
        obtain ⟨ag, hG, _, g0, g1⟩ := (HS.out.below HB.out).dot hkm
        have k1 : (k : Int) < (l.length : Int) := by omega
        have k2 : (k : Int) < (m.length : Int) := by omega
        have k0 : (0 : Int) ≤ (k : Int) := by omega
        subst hA hG
        have hdr : (l.drop k = m.drop k) = (l[k] = m[k] ∧ l.drop (k + 1) = m.drop (k + 1)) := by
          rw [List.drop_eq_getElem_cons hkn, List.drop_eq_getElem_cons hkm, List.cons.injEq]
        have HDR := Lib.hid hdr
        clear hdr
        generalize l[k] = x at *
        generalize m[k] = y at *
        obtain ⟨x0, x1⟩ := x
        obtain ⟨y0, y1⟩ := y
        simp only at c0 c1 g0 g1
        by_cases hxy : (⟨x0, x1⟩ : LDot) = ⟨y0, y1⟩
        · have HN : Hid (decide (l = m) = decide (l.drop (k + 1) = m.drop (k + 1))) := by
            show _ = _
            rw [HE.out]; congr 1; rw [HDR.out]; simp [hxy]
          have hq : ∀ W, (Op.equalIn 10000 27 (.agg #[.int .i64 x0, .int .i64 x1]) (.agg #[.int .i64 y0, .int .i64 y1])).run Tryz.prog W = .ok true W := fun W => by rw [eq_one, same_one, decide_eq_true hxy]
          clear HDR HE hxy
          go_wp2_with fail
          go_quiet (fail)
          go_wp2_with fail
          go_roundw
          case rel => exact ⟨k + 1, by omega, by go_num, below_drewN HB.out _, HN⟩
          case measure => simp [intOf]; omega
        · have HN : Hid (decide (l = m) = false) := by
            show _ = _
            rw [HE.out, decide_eq_false_iff_not, HDR.out]; exact fun h => hxy h.1
          have hq : ∀ W, (Op.equalIn 10000 27 (.agg #[.int .i64 x0, .int .i64 x1]) (.agg #[.int .i64 y0, .int .i64 y1])).run Tryz.prog W = .ok false W := fun W => by rw [eq_one, same_one, decide_eq_false hxy]
          clear HDR HE hxy
          go_wp2_with fail
          go_quiet (fail)
          go_wp2_with fail
          go_ret
          exact ⟨by rw [HN.out]; rfl, below_drewN HB.out _⟩
      · have HN : Hid (decide (l = m) = true) := by
          show _ = _
          rw [HE.out, List.drop_of_length_le (by omega), List.drop_of_length_le (by have := HLM.out; omega)]; rfl
        have hd : decide ((k : Int) < (l.length : Int)) = false := by simp; omega
        go_wp2_with fail
        go_ret
        exact ⟨by rw [HN.out]; rfl, HB.out⟩
  · have HF : Hid (decide (l = m) = false) := decide_eq_false (fun h => hlm (by rw [h]))
    have e0 : ((l.length : Int) != (m.length : Int)) = true := by simp; omega
    have e1 : ((l.length : Int) == (m.length : Int)) = false := by simp; omega
    clear hlm
    go_enter Tryz.func43, Tryz.ntmps43
    go_wp2_with fail
    go_ret
    exact ⟨by rw [HF.out]; rfl, Below.refl _ _⟩
theorem any (w : World) (A G : Option Addr) (ca cg : Nat) (l m : List LDot) (h1 : Reads w w.heap.size 2 A l.length (dcells l)) (h2 : Reads w w.heap.size 2 G m.length (dcells m)) (hl : l.length ≤ 1000000) (hm : m.length ≤ 1000000) :
    Calls Tryz.prog 43 #[.slice A l.length ca, .slice G m.length cg] w (SamePost w (decide (l = m))) := any_big w A G ca cg l m h1 h2 (by omega) (by omega)
end SameDots
end Go.Proofs.YthfbjfocmnikaaaGreatDoor
/- leafsame.Op, leafsame.Ops, walked. Conditions: few elements. -/
namespace Go.Proofs.YthfbjfocmnikaaaGreatDoor
open Go.RowKit
set_option linter.unusedVariables false
namespace SameOp
instance dec : DecidableEq LOp := fun a b => by
  obtain ⟨⟨a0, a1⟩, a2, a3, a4, a5⟩ := a
  obtain ⟨⟨b0, b1⟩, b2, b3, b4, b5⟩ := b
  simp only [LOp.mk.injEq, LDot.mk.injEq]
  exact inferInstance
theorem beq_str {x y : ByteArray} : (x.toList == y.toList) = decide (x = y) := by
  rw [Bool.eq_iff_iff, beq_iff_eq, decide_eq_true_iff, same_toList]
set_option maxRecDepth 100000 in
set_option maxHeartbeats 2000000 in
theorem any (w : World) (x y : LOp) (A G : Option Addr) (ca cg : Nat) (h1 : Reads w w.heap.size 2 A x.seen.length (dcells x.seen)) (h2 : Reads w w.heap.size 2 G y.seen.length (dcells y.seen)) (hl : x.seen.length ≤ 9223372036854775807) (hm : y.seen.length ≤ 9223372036854775807) :
    Calls Tryz.prog 96 #[x.val A ca, y.val G cg] w (SamePost w (decide (x = y))) := by
  obtain ⟨W0, hW0⟩ : ∃ W0, W0 = (w.alloc (.cells (x.cells A ca) 30)).alloc (.cells (y.cells G cg) 30) := ⟨_, rfl⟩
  have hb0 : Below w.heap.size w W0 := by rw [hW0]; exact ((Below.refl _ _).alloc (Nat.le_refl _) _).alloc (by simp) _
  have HB0 := Lib.hid hb0
  have hs0 : (w.alloc (.cells (x.cells A ca) 30)).heap.size = w.heap.size + 1 := by simp
  have bx : Blk W0 w.heap.size 30 (x.cells A ca) := by rw [hW0]; exact (Blk.new w _ _).alloc _
  have by_ : Blk W0 (w.heap.size + 1) 30 (y.cells G cg) := by rw [hW0]; unfold Blk; rw [← hs0]; exact heap_alloc_new _ _
  have HC := Lib.hid (SameDots.any_big W0 A G ca cg x.seen y.seen ((h1.below hb0).more hb0.size) ((h2.below hb0).more hb0.size) hl hm)
  have HCX : Hid (∀ W, Below W0.heap.size W0 W → W.cell? ⟨w.heap.size, 0, none⟩ = some (.int .i64 x.dot.who) ∧ W.cell? ⟨w.heap.size, 1, none⟩ = some (.int .i64 x.dot.n) ∧ W.cell? ⟨w.heap.size, 2, none⟩ = some (.int .i64 x.what) ∧ W.cell? ⟨w.heap.size, 3, none⟩ = some (.string x.place) ∧ W.cell? ⟨w.heap.size, 4, none⟩ = some (.int .i64 x.letter) ∧ W.cell? ⟨w.heap.size, 5, none⟩ = some (.slice A x.seen.length ca)) := fun W hb => by
    have h := bx.below hb bx.lt
    exact ⟨h.cell 0, h.cell 1, h.cell 2, h.cell 3, h.cell 4, h.cell 5⟩
  have HCY : Hid (∀ W, Below W0.heap.size W0 W → W.cell? ⟨w.heap.size + 1, 0, none⟩ = some (.int .i64 y.dot.who) ∧ W.cell? ⟨w.heap.size + 1, 1, none⟩ = some (.int .i64 y.dot.n) ∧ W.cell? ⟨w.heap.size + 1, 2, none⟩ = some (.int .i64 y.what) ∧ W.cell? ⟨w.heap.size + 1, 3, none⟩ = some (.string y.place) ∧ W.cell? ⟨w.heap.size + 1, 4, none⟩ = some (.int .i64 y.letter) ∧ W.cell? ⟨w.heap.size + 1, 5, none⟩ = some (.slice G y.seen.length cg)) := fun W hb => by
    have h := by_.below hb by_.lt
    exact ⟨h.cell 0, h.cell 1, h.cell 2, h.cell 3, h.cell 4, h.cell 5⟩
  have HQ := Lib.hid (fun W => SameDots.eq_one W x.dot.who y.dot.who x.dot.n y.dot.n)
  have HX : Hid (x = y ↔ x.seen = y.seen ∧ (x.dot.who = y.dot.who ∧ x.dot.n = y.dot.n) ∧ x.what = y.what ∧ x.place = y.place ∧ x.letter = y.letter) := by
    obtain ⟨⟨a, b⟩, c, d, e, f⟩ := x
    obtain ⟨⟨a', b'⟩, c', d', e', f'⟩ := y
    show _ ↔ _
    simp only [LOp.mk.injEq, LDot.mk.injEq]
    constructor
    · rintro ⟨⟨h1, h2⟩, h3, h4, h5, h6⟩; exact ⟨h6, ⟨h1, h2⟩, h3, h4, h5⟩
    · rintro ⟨h6, ⟨h1, h2⟩, h3, h4, h5⟩; exact ⟨⟨h1, h2⟩, h3, h4, h5, h6⟩
  have hfin : ∀ b : Bool, (b = true ↔ x = y) → decide (x = y) = b := fun b h => by
    rw [Bool.eq_iff_iff, decide_eq_true_iff]; exact h.symm
  have HFIN := Lib.hid hfin
  clear h1 h2 bx by_ hb0 hfin
  obtain ⟨⟨xw, xn⟩, xa, xp, xl, xs⟩ := x
  obtain ⟨⟨yw, yn⟩, ya, yp, yl, ys⟩ := y
  unfold LOp.val
  unfold LOp.cells at hW0
  simp only at hW0 HC HCX HCY HQ HX HFIN hl hm ⊢
  have HBR : Hid (Below W0.heap.size W0 W0) := Below.refl _ _
  obtain ⟨c0, c1, c2, c3, c4, c5⟩ := HCX.out _ HBR.out
  obtain ⟨d0, d1, d2, d3, d4, d5⟩ := HCY.out _ HBR.out
  go_enter Tryz.func96, Tryz.ntmps96
  go_wp2_with fail
  rw [← hW0]
  clear hW0
  refine HC.out.mono ?_
  rintro e w2 ⟨rfl, hb⟩
  have HB2 := Lib.hid (HB0.out.trans (hb.mono HB0.out.size))
  clear c0 c1 c2 c3 c4 c5 d0 d1 d2 d3 d4 d5
  obtain ⟨c0, c1, c2, c3, c4, c5⟩ := HCX.out _ hb
  obtain ⟨d0, d1, d2, d3, d4, d5⟩ := HCY.out _ hb
  clear hb HC HCX HCY
  by_cases hs : xs = ys
  · rw [decide_eq_true hs]
    have HS := Lib.hid hs
    clear hs
    by_cases hd : xw = yw ∧ xn = yn
    · have hq : ∀ W, (Op.equalIn 10000 27 (.agg #[.int .i64 xw, .int .i64 xn]) (.agg #[.int .i64 yw, .int .i64 yn])).run Tryz.prog W = .ok true W := fun W => by rw [HQ.out W]; simp [hd.1, hd.2]
      have HD := Lib.hid hd
      clear hd
      by_cases ha : xa = ya
      · have g1 : (xa == ya) = true := by rw [beq_iff_eq]; exact ha
        have HA := Lib.hid ha
        clear ha
        by_cases hp : xp = yp
        · have g2 : (xp.toList == yp.toList) = true := by rw [beq_str, decide_eq_true hp]
          have HP := Lib.hid hp
          clear hp
          by_cases hl : xl = yl
          · have g3 : (xl == yl) = true := by rw [beq_iff_eq]; exact hl
            have HF := Lib.hid (HFIN.out true ⟨fun _ => HX.out.2 ⟨HS.out, HD.out, HA.out, HP.out, hl⟩, fun _ => rfl⟩)
            clear hl
            go_wp2_with fail
            go_ret
            exact ⟨by rw [HF.out]; rfl, HB2.out⟩
          · have g3 : (xl == yl) = false := by rw [beq_eq_false_iff_ne]; exact hl
            have HF := Lib.hid (HFIN.out false ⟨(fun h => nomatch h), fun h => absurd (HX.out.1 h).2.2.2.2 hl⟩)
            clear hl
            go_wp2_with fail
            go_ret
            exact ⟨by rw [HF.out]; rfl, HB2.out⟩
        · have g2 : (xp.toList == yp.toList) = false := by rw [beq_str, decide_eq_false hp]
          have HF := Lib.hid (HFIN.out false ⟨(fun h => nomatch h), fun h => absurd (HX.out.1 h).2.2.2.1 hp⟩)
          clear hp
          go_wp2_with fail
          go_ret
          exact ⟨by rw [HF.out]; rfl, HB2.out⟩
      · have g1 : (xa == ya) = false := by rw [beq_eq_false_iff_ne]; exact ha
        have HF := Lib.hid (HFIN.out false ⟨(fun h => nomatch h), fun h => absurd (HX.out.1 h).2.2.1 ha⟩)
        clear ha
        go_wp2_with fail
        go_ret
        exact ⟨by rw [HF.out]; rfl, HB2.out⟩
    · have hq : ∀ W, (Op.equalIn 10000 27 (.agg #[.int .i64 xw, .int .i64 xn]) (.agg #[.int .i64 yw, .int .i64 yn])).run Tryz.prog W = .ok false W := fun W => by
        rw [HQ.out W]
        by_cases h1 : xw = yw
        · have h2 : xn ≠ yn := fun h => hd ⟨h1, h⟩
          simp [h2]
        · simp [h1]
      have HF := Lib.hid (HFIN.out false ⟨(fun h => nomatch h), fun h => absurd (HX.out.1 h).2.1 hd⟩)
      clear hd
      go_wp2_with fail
      go_ret
      exact ⟨by rw [HF.out]; rfl, HB2.out⟩
  · rw [decide_eq_false hs]
    have HF := Lib.hid (HFIN.out false ⟨(fun h => nomatch h), fun h => absurd (HX.out.1 h).1 hs⟩)
    clear hs
    go_wp2_with fail
    go_ret
    exact ⟨by rw [HF.out]; rfl, HB2.out⟩
end SameOp
end Go.Proofs.YthfbjfocmnikaaaGreatDoor
/- leafsame.Ops, walked. Conditions: few elements. -/
namespace Go.Proofs.YthfbjfocmnikaaaGreatDoor
open Go.RowKit
set_option linter.unusedVariables false
namespace SameOps
def Loop (w : World) (l m : List OpAt) (i : Value) (wr : World) : Prop :=
  ∃ k : Nat, k ≤ l.length ∧ i = .int .i64 k ∧ Hid (Below w.heap.size w wr) ∧ Hid (decide (l.map OpAt.op = m.map OpAt.op) = decide ((l.drop k).map OpAt.op = (m.drop k).map OpAt.op))
theorem cells_at {w : World} {B : Nat} {A : Option Addr} {l : List OpAt} (h : Reads w B 6 A l.length (ocells l)) {k : Nat} (hk : k < l.length) : ∃ ad, A = some ad ∧ ad.block < B ∧ ∀ W : World, (∀ q : Addr, q.block = ad.block → W.cell? q = w.cell? q) → W.cell? (ad.add (k * 6)) = some (.int .i64 l[k].op.dot.who) ∧ W.cell? ⟨(ad.add (k * 6)).block, (ad.add (k * 6)).off + 1, none⟩ = some (.int .i64 l[k].op.dot.n) ∧ W.cell? ⟨(ad.add (k * 6)).block, (ad.add (k * 6)).off + 2, none⟩ = some (.int .i64 l[k].op.what) ∧
      W.cell? ⟨(ad.add (k * 6)).block, (ad.add (k * 6)).off + 3, none⟩ = some (.string l[k].op.place) ∧ W.cell? ⟨(ad.add (k * 6)).block, (ad.add (k * 6)).off + 4, none⟩ = some (.int .i64 l[k].op.letter) ∧ W.cell? ⟨(ad.add (k * 6)).block, (ad.add (k * 6)).off + 5, none⟩ = some (.slice l[k].at_ l[k].op.seen.length l[k].cap) := by
  obtain ⟨ad, e, hb, c0, c1, c2, c3, c4, c5⟩ := h.op hk
  refine ⟨ad, e, by simpa [block_of_add] using hb, fun W hW => ⟨(hW _ (block_of_add _ _)).trans c0, (hW ⟨_, _, none⟩ (block_of_add _ _)).trans c1, (hW ⟨_, _, none⟩ (block_of_add _ _)).trans c2, (hW ⟨_, _, none⟩ (block_of_add _ _)).trans c3, (hW ⟨_, _, none⟩ (block_of_add _ _)).trans c4, (hW ⟨_, _, none⟩ (block_of_add _ _)).trans c5⟩⟩
set_option maxRecDepth 100000 in
set_option maxHeartbeats 4000000 in
theorem any (w : World) (A G : Option Addr) (ca cg : Nat) (l m : List OpAt) (h1 : Reads w w.heap.size 6 A l.length (ocells l)) (h2 : Reads w w.heap.size 6 G m.length (ocells m)) (s1 : ∀ y ∈ l, Reads w w.heap.size 2 y.at_ y.op.seen.length (dcells y.op.seen) ∧ y.op.seen.length ≤ 9223372036854775807)
    (s2 : ∀ y ∈ m, Reads w w.heap.size 2 y.at_ y.op.seen.length (dcells y.op.seen) ∧ y.op.seen.length ≤ 9223372036854775807) (hl : l.length ≤ 9223372036854775807) (hm : m.length ≤ 9223372036854775807) :
    Calls Tryz.prog 39 #[.slice A l.length ca, .slice G m.length cg] w (CheckPost w (.bool (decide (l.map OpAt.op = m.map OpAt.op)))) := by
  have HR := Lib.hid h1
  have HS := Lib.hid h2
  have HSL := Lib.hid s1
  have HSM := Lib.hid s2
  clear h1 h2 s1 s2
  by_cases hlm : l.length = m.length
  · have HLM := Lib.hid hlm
    have e0 : ((l.length : Int) != (m.length : Int)) = false := by simp [hlm]
    have e1 : ((l.length : Int) == (m.length : Int)) = true := by simp [hlm]
    clear hlm
    go_enter Tryz.func39, Tryz.ntmps39
    go_wp2_with fail
    go_loopw [5] (fun i wr => Loop w l m i wr) (fun i _ => l.length - (intOf i).toNat)
    case atStart => exact ⟨0, by omega, rfl, Below.refl _ _, Lib.hid rfl⟩
    case round =>
      obtain ⟨k, hk, rfl, HB, HE⟩ := hrel
      by_cases hkn : k < l.length
      · have hkm : k < m.length := by have := HLM.out; omega
        obtain ⟨ad, rfl, hab, hcl⟩ := cells_at (HR.out.below HB.out) hkn
        obtain ⟨ag, rfl, hag, hcm⟩ := cells_at (HS.out.below HB.out) hkm
        have HCL : Hid (∀ W, Below wr.heap.size wr W → _) := fun W hW => hcl W (fun q hq => hW.cell (by rw [hq]; exact Nat.lt_of_lt_of_le hab HB.out.size))
        have HCM : Hid (∀ W, Below wr.heap.size wr W → _) := fun W hW => hcm W (fun q hq => hW.cell (by rw [hq]; exact Nat.lt_of_lt_of_le hag HB.out.size))
        obtain ⟨c0, c1, c2, c3, c4, c5⟩ := HCL.out wr (Below.refl _ _)
        obtain ⟨g0, g1, g2, g3, g4, g5⟩ := HCM.out wr (Below.refl _ _)
        have k1 : (k : Int) < (l.length : Int) := by omega
        have k2 : (k : Int) < (m.length : Int) := by omega
        have k0 : (0 : Int) ≤ (k : Int) := by omega
        have hdr : ((l.drop k).map OpAt.op = (m.drop k).map OpAt.op) = (l[k].op = m[k].op ∧ (l.drop (k + 1)).map OpAt.op = (m.drop (k + 1)).map OpAt.op) := by
          rw [List.drop_eq_getElem_cons hkn, List.drop_eq_getElem_cons hkm, List.map_cons, List.map_cons, List.cons.injEq]
        have HDR := Lib.hid hdr
        have hx := HSL.out _ (List.getElem_mem hkn)
        have hy := HSM.out _ (List.getElem_mem hkm)
        have HC := Lib.hid (fun W (hW : Below w.heap.size w W) => SameOp.any W l[k].op m[k].op l[k].at_ m[k].at_ l[k].cap m[k].cap ((hx.1.below hW).more hW.size) ((hy.1.below hW).more hW.size) hx.2 hy.2)
        obtain ⟨bb, hbb⟩ : ∃ bb, bb = decide (l[k].op = m[k].op) := ⟨_, rfl⟩
        rw [← hbb] at HC
        have HBB := Lib.hid hbb
        clear hdr hx hy hcl hcm hab hag hbb
        generalize l[k] = x at *
        generalize m[k] = y at *
        obtain ⟨⟨⟨xw, xn⟩, xa, xp, xl, xs⟩, xA, xc⟩ := x
        obtain ⟨⟨⟨yw, yn⟩, ya, yp, yl, ys⟩, yA, yc⟩ := y
        unfold LOp.val at HC
        simp only at HC HDR HBB HCL HCM c0 c1 c2 c3 c4 c5 g0 g1 g2 g3 g4 g5
        go_wp2_with fail
        go_region_held3 (fun w' => (w'.cell? (ad.add (k * 6)) = some (.int .i64 xw) ∧ w'.cell? ⟨(ad.add (k * 6)).block, (ad.add (k * 6)).off + 1, none⟩ = some (.int .i64 xn) ∧ w'.cell? ⟨(ad.add (k * 6)).block, (ad.add (k * 6)).off + 2, none⟩ = some (.int .i64 xa) ∧ w'.cell? ⟨(ad.add (k * 6)).block, (ad.add (k * 6)).off + 3, none⟩ = some (.string xp) ∧ w'.cell? ⟨(ad.add (k * 6)).block, (ad.add (k * 6)).off + 4, none⟩ = some (.int .i64 xl) ∧ w'.cell? ⟨(ad.add (k * 6)).block, (ad.add (k * 6)).off + 5, none⟩ = some (.slice xA xs.length xc) ∧
            w'.cell? (ag.add (k * 6)) = some (.int .i64 yw) ∧ w'.cell? ⟨(ag.add (k * 6)).block, (ag.add (k * 6)).off + 1, none⟩ = some (.int .i64 yn) ∧ w'.cell? ⟨(ag.add (k * 6)).block, (ag.add (k * 6)).off + 2, none⟩ = some (.int .i64 ya) ∧ w'.cell? ⟨(ag.add (k * 6)).block, (ag.add (k * 6)).off + 3, none⟩ = some (.string yp) ∧ w'.cell? ⟨(ag.add (k * 6)).block, (ag.add (k * 6)).off + 4, none⟩ = some (.int .i64 yl) ∧ w'.cell? ⟨(ag.add (k * 6)).block, (ag.add (k * 6)).off + 5, none⟩ = some (.slice yA ys.length yc)))
          (first | go_keep | (refine ⟨?_, ?_, ?_, ?_, ?_, ?_, ?_, ?_, ?_, ?_, ?_, ?_⟩ <;> assumption))
          ((go_at_call 96; refine (HC.out _ (by first | exact HB.out | exact below_drewN HB.out _ | exact HB.out.drew)).mono ?_; rintro e w3 ⟨rfl, hb3⟩
            have hbw : Below wr.heap.size wr w3 := by first | exact hb3 | exact below_of_drewN (n := 1) hb3
            have HB3 : Hid (Below w.heap.size w w3) := HB.out.trans (hbw.mono HB.out.size)
            clear c0 c1 c2 c3 c4 c5 g0 g1 g2 g3 g4 g5
            obtain ⟨c0, c1, c2, c3, c4, c5⟩ := HCL.out _ hbw
            obtain ⟨g0, g1, g2, g3, g4, g5⟩ := HCM.out _ hbw
            clear hb3 hbw))
        cases bb with
        | true =>
          have HEN : Hid (decide (l.map OpAt.op = m.map OpAt.op) = decide ((l.drop (k + 1)).map OpAt.op = (m.drop (k + 1)).map OpAt.op)) := by
            show _ = _
            rw [HE.out]
            rw [Bool.eq_iff_iff, decide_eq_true_iff, decide_eq_true_iff, HDR.out]
            exact ⟨fun h => h.2, fun h => ⟨of_decide_eq_true HBB.out.symm, h⟩⟩
          clear HDR HE HBB
          go_wp2_with fail
          go_roundw
          case rel => exact ⟨k + 1, by omega, by go_num, HB3, HEN⟩
          case measure => simp [intOf]; omega
        | false =>
          have HEN : Hid (decide (l.map OpAt.op = m.map OpAt.op) = false) := by
            show _ = _
            rw [HE.out, decide_eq_false_iff_not, HDR.out]
            exact fun h => of_decide_eq_false HBB.out.symm h.1
          clear HDR HE HBB
          go_wp2_with fail
          go_ret
          exact ⟨by rw [HEN.out]; rfl, HB3.out⟩
      · have k1 : ¬ (k : Int) < (l.length : Int) := by omega
        have HEN : Hid (decide (l.map OpAt.op = m.map OpAt.op) = true) := by
          show _ = _
          rw [HE.out, List.drop_of_length_le (by omega), List.drop_of_length_le (by have := HLM.out; omega)]
          rfl
        go_wp2_with fail
        go_ret
        exact ⟨by rw [HEN.out]; rfl, HB.out⟩
  · have e0 : ((l.length : Int) != (m.length : Int)) = true := by simp; omega
    have HEN : Hid (decide (l.map OpAt.op = m.map OpAt.op) = false) := by
      show _ = _
      rw [decide_eq_false_iff_not]
      intro h
      have := congrArg List.length h
      simp at this
      exact hlm this
    clear hlm
    go_enter Tryz.func39, Tryz.ntmps39
    go_wp2_with fail
    go_ret
    exact ⟨by rw [HEN.out]; rfl, Below.refl _ _⟩
end SameOps
end Go.Proofs.YthfbjfocmnikaaaGreatDoor
/- The two documents are the same, part by part: by the contracts. Conditions: the documents are right. -/
namespace Go.Proofs.YthfbjfocmnikaaaGreatDoor
open Go.RowKit
set_option linter.unusedVariables false
namespace Twin
theorem rcells {w w3 : World} {B b1 b2 : Nat} {s : LDoc} {S1 S2 : List Nat} {D1 : DLay} {D2 : RLay} (h : Twin w B b1 b2 s s w3 S1 S2 D1 D2) (W : World) (hb : Below w3.heap.size w3 W) : W.cell? ⟨b2, 0, none⟩ = some (.slice D2.a1 s.book.length D2.c1) ∧ W.cell? ⟨b2, 1, none⟩ = some (.slice D2.a2 s.marks.length D2.c2) ∧ W.cell? ⟨b2, 2, none⟩ = some (.slice D2.a3 s.known.length D2.c3) ∧ W.cell? ⟨b2, 3, none⟩ = some (.slice D2.a4 s.ops.length D2.c4) := by
  have h1 := (h.two.below hb).blk
  exact ⟨by rw [h1.cell]; rfl, by rw [h1.cell]; rfl, by rw [h1.cell]; rfl, by rw [h1.cell]; rfl⟩
variable {w w3 : World} {B b1 b2 : Nat} {s : LDoc} {S1 S2 : List Nat} {D1 : DLay} {D2 : RLay} (h : Twin w B b1 b2 s s w3 S1 S2 D1 D2) (ok : s.Ok)
include h ok
theorem books (W : World) (hb : Below w3.heap.size w3 W) : Calls Tryz.prog 23 #[.pointer (some ⟨b1, 0, none⟩)] W (fun e w' => ∃ V c, e = .returned (.slice V s.book.length c) ∧ Below w3.heap.size w3 w' ∧
    ∀ W2, Below w'.heap.size w' W2 → Calls Tryz.prog 22 #[.slice V s.book.length c, .slice D2.a1 s.book.length D2.c1] W2 (fun e w4 => e = .returned (.bool true) ∧ Below w3.heap.size w3 w4)) := by
  refine (book_doc W _ _ _ _ _ (h.one.below hb) ok).mono ?_
  rintro e w' ⟨V, c, rfl, hO, hb2⟩
  have hb3 := hb.trans (hb2.mono hb.size)
  refine ⟨V, c, rfl, hb3, fun W2 hW2 => ?_⟩
  have hb4 := hb3.trans (hW2.mono hb3.size)
  exact (leafs_same W2 V D2.a1 c D2.c1 s.book (hO.below hW2).reads (h.two.below hb4).book.row (by have := ok.book.few; omega)).mono fun e w4 hh => ⟨hh.1, hb4.trans (hh.2.mono hb4.size)⟩
theorem markss (W : World) (hb : Below w3.heap.size w3 W) : Calls Tryz.prog 25 #[.pointer (some ⟨b1, 0, none⟩)] W (fun e w' => ∃ V c, e = .returned (.slice V s.marks.length c) ∧ Below w3.heap.size w3 w' ∧
    ∀ W2, Below w'.heap.size w' W2 → Calls Tryz.prog 24 #[.slice V s.marks.length c, .slice D2.a2 s.marks.length D2.c2] W2 (fun e w4 => e = .returned (.bool true) ∧ Below w3.heap.size w3 w4)) := by
  refine (marks_doc W _ _ _ _ _ (h.one.below hb) ok).mono ?_
  rintro e w' ⟨V, c, rfl, hO, hb2⟩
  have hb3 := hb.trans (hb2.mono hb.size)
  refine ⟨V, c, rfl, hb3, fun W2 hW2 => ?_⟩
  have hb4 := hb3.trans (hW2.mono hb3.size)
  exact (marks_same W2 V D2.a2 c D2.c2 s.marks (hO.below hW2).reads (h.two.below hb4).marks.row (by have := ok.marks.few; omega)).mono fun e w4 hh => ⟨hh.1, hb4.trans (hh.2.mono hb4.size)⟩
theorem knowns (W : World) (hb : Below w3.heap.size w3 W) : Calls Tryz.prog 27 #[.pointer (some ⟨b1, 0, none⟩)] W (fun e w' => ∃ V c, e = .returned (.slice V s.known.length c) ∧ Below w3.heap.size w3 w' ∧
    ∀ W2, Below w'.heap.size w' W2 → Calls Tryz.prog 26 #[.slice V s.known.length c, .slice D2.a3 s.known.length D2.c3] W2 (fun e w4 => e = .returned (.bool true) ∧ Below w3.heap.size w3 w4)) := by
  refine (known_doc W _ _ _ _ _ (h.one.below hb) ok).mono ?_
  rintro e w' ⟨V, c, rfl, hO, hb2⟩
  have hb3 := hb.trans (hb2.mono hb.size)
  refine ⟨V, c, rfl, hb3, fun W2 hW2 => ?_⟩
  have hb4 := hb3.trans (hW2.mono hb3.size)
  exact (ints_same W2 V D2.a3 c D2.c3 s.known (hO.below hW2).reads (h.two.below hb4).known.reads (by have := (vec_ok ok.known).1; omega)).mono fun e w4 hh => ⟨hh.1, hb4.trans (hh.2.mono hb4.size)⟩
theorem texts (W : World) (hb : Below w3.heap.size w3 W) : Calls Tryz.prog 14 #[.pointer (some ⟨b1, 0, none⟩)] W (fun e w' => e = .returned (.string (textOf s.book)) ∧ Below w3.heap.size w3 w') :=
  (text_doc W _ _ _ _ _ (h.one.below hb) ok).mono fun e w' hh => ⟨hh.1, hb.trans (hh.2.mono hb.size)⟩
end Twin
end Go.Proofs.YthfbjfocmnikaaaGreatDoor
/- leafref2.Copy, walked: another document that says the same. Conditions: the document is right. -/
namespace Go.Proofs.YthfbjfocmnikaaaGreatDoor
open Go.RowKit
set_option linter.unusedVariables false
theorem elemLf : Elem Tryz.prog 49 115 3 32 := Elem.mk_ (z := .agg #[.string ⟨#[]⟩, .int .i64 0, .bool false]) Tryz.underlying49 (by kernel_rfl) rfl (by decide)
theorem elemMk : Elem Tryz.prog 51 136 3 32 := Elem.mk_ (z := .agg #[.string ⟨#[]⟩, .int .i64 0, .int .i64 0]) Tryz.underlying51 (by kernel_rfl) rfl (by decide)
/-- Midway through a copy. -/
structure CpAt (w : World) (p kb : Nat) (ks : Array Value) (A1 : Option Addr) (n1 c1 : Nat) (xs1 : List Value) (A2 : Option Addr) (n2 c2 : Nat) (xs2 : List Value) (A4 : Option Addr) (n4 c4 : Nat) (xs4 : List Value) (W : World) : Prop where
  bel : Below w.heap.size w W
  low : w.heap.size ≤ p ∧ w.heap.size ≤ kb
  blk : Blk W p 53 #[.slice A1 n1 c1, .slice A2 n2 c2, .slice (some ⟨kb, 0, none⟩) 8 8, .slice A4 n4 c4]
  kn : Blk W kb 3 ks
  o1 : Own W w.heap.size 115 3 A1 n1 c1 xs1
  o2 : Own W w.heap.size 136 3 A2 n2 c2 xs2
  o4 : Own W w.heap.size 30 6 A4 n4 c4 xs4
namespace CpAt
variable {w W W2 : World} {p kb : Nat} {ks : Array Value} {A1 : Option Addr} {n1 c1 : Nat} {xs1 : List Value} {A2 : Option Addr} {n2 c2 : Nat} {xs2 : List Value} {A4 : Option Addr} {n4 c4 : Nat} {xs4 : List Value}
theorem cells (h : CpAt w p kb ks A1 n1 c1 xs1 A2 n2 c2 xs2 A4 n4 c4 xs4 W) : W.cell? ⟨p, 0, none⟩ = some (.slice A1 n1 c1) ∧ W.cell? ⟨p, 1, none⟩ = some (.slice A2 n2 c2) ∧ W.cell? ⟨p, 2, none⟩ = some (.slice (some ⟨kb, 0, none⟩) 8 8) ∧ W.cell? ⟨p, 3, none⟩ = some (.slice A4 n4 c4) :=
  ⟨by rw [h.blk.cell]; rfl, by rw [h.blk.cell]; rfl, by rw [h.blk.cell]; rfl, by rw [h.blk.cell]; rfl⟩
theorem drewN (h : CpAt w p kb ks A1 n1 c1 xs1 A2 n2 c2 xs2 A4 n4 c4 xs4 W) (k : Nat) : CpAt w p kb ks A1 n1 c1 xs1 A2 n2 c2 xs2 A4 n4 c4 xs4 (W.drewN k) := ⟨below_drewN h.bel k, h.low, h.blk, h.kn, h.o1, h.o2, h.o4⟩
theorem only (h : CpAt w p kb ks A1 n1 c1 xs1 A2 n2 c2 xs2 A4 n4 c4 xs4 W) (ho : Only [] W W2) : CpAt w p kb ks A1 n1 c1 xs1 A2 n2 c2 xs2 A4 n4 c4 xs4 W2 :=
  ⟨h.bel.trans (ho.below_nil.mono h.bel.size), h.low, ho.blk h.blk (by simp), ho.blk h.kn (by simp), h.o1.only ho (by simp), h.o2.only ho (by simp), h.o4.only ho (by simp)⟩
theorem fin (h : CpAt w p kb ks A1 n1 c1 xs1 A2 n2 c2 xs2 A4 n4 c4 xs4 W) {i : Nat} {u : Value} : Only [p] W (W.setCell ⟨p, i, none⟩ u) ∧ Below w.heap.size w (W.setCell ⟨p, i, none⟩ u) ∧ Blk (W.setCell ⟨p, i, none⟩ u) kb 3 ks := by
  have hs : Only [p] W (W.setCell ⟨p, i, none⟩ u) := (Only.refl _ _).setCell (.inl (by simp)) _
  exact ⟨hs, h.bel.trans (hs.below h.bel.size (fun x hx => by simp at hx; subst hx; exact h.low.1)), hs.blk h.kn (fun hm => by simp at hm; exact h.kn.ne_ h.blk (by decide) hm)⟩
theorem app1 (h : CpAt w p kb ks none 0 0 [] A2 n2 c2 xs2 A4 n4 c4 xs4 W) {V : Option Addr} {n c : Nat} {xs : List Value} (hO : Own W2 w.heap.size 115 3 V n c xs) (ho : Only [] W W2) : CpAt w p kb ks V n c xs A2 n2 c2 xs2 A4 n4 c4 xs4 (W2.setCell ⟨p, 0, none⟩ (.slice V n c)) := by
  have h2 := h.only ho
  obtain ⟨hs, hb, hk⟩ := h2.fin (i := 0) (u := .slice V n c)
  exact ⟨hb, h.low, h2.blk.set_ 0 _, hk, (hO.only hs (fun x hx hm => by simp at hm; subst hm; exact hO.blk_ne h2.blk (by decide) hx)), (h2.o2.only hs (fun x hx hm => by simp at hm; subst hm; exact h2.o2.blk_ne h2.blk (by decide) hx)), (h2.o4.only hs (fun x hx hm => by simp at hm; subst hm; exact h2.o4.blk_ne h2.blk (by decide) hx))⟩
theorem app2 (h : CpAt w p kb ks A1 n1 c1 xs1 none 0 0 [] A4 n4 c4 xs4 W) {V : Option Addr} {n c : Nat} {xs : List Value} (hO : Own W2 w.heap.size 136 3 V n c xs) (ho : Only [] W W2) : CpAt w p kb ks A1 n1 c1 xs1 V n c xs A4 n4 c4 xs4 (W2.setCell ⟨p, 1, none⟩ (.slice V n c)) := by
  have h2 := h.only ho
  obtain ⟨hs, hb, hk⟩ := h2.fin (i := 1) (u := .slice V n c)
  exact ⟨hb, h.low, h2.blk.set_ 1 _, hk, (h2.o1.only hs (fun x hx hm => by simp at hm; subst hm; exact h2.o1.blk_ne h2.blk (by decide) hx)), (hO.only hs (fun x hx hm => by simp at hm; subst hm; exact hO.blk_ne h2.blk (by decide) hx)), (h2.o4.only hs (fun x hx hm => by simp at hm; subst hm; exact h2.o4.blk_ne h2.blk (by decide) hx))⟩
theorem app4 (h : CpAt w p kb ks A1 n1 c1 xs1 A2 n2 c2 xs2 none 0 0 [] W) {V : Option Addr} {n c : Nat} {xs : List Value} (hO : Own W2 w.heap.size 30 6 V n c xs) (ho : Only [] W W2) : CpAt w p kb ks A1 n1 c1 xs1 A2 n2 c2 xs2 V n c xs (W2.setCell ⟨p, 3, none⟩ (.slice V n c)) := by
  have h2 := h.only ho
  obtain ⟨hs, hb, hk⟩ := h2.fin (i := 3) (u := .slice V n c)
  exact ⟨hb, h.low, h2.blk.set_ 3 _, hk, (h2.o1.only hs (fun x hx hm => by simp at hm; subst hm; exact h2.o1.blk_ne h2.blk (by decide) hx)), (h2.o2.only hs (fun x hx hm => by simp at hm; subst hm; exact h2.o2.blk_ne h2.blk (by decide) hx)), (hO.only hs (fun x hx hm => by simp at hm; subst hm; exact hO.blk_ne h2.blk (by decide) hx))⟩
theorem known (h : CpAt w p kb ks A1 n1 c1 xs1 A2 n2 c2 xs2 A4 n4 c4 xs4 W) {ks' : Array Value} (hk : Blk W2 kb 3 ks') (ho : Only [kb] W W2) : CpAt w p kb ks' A1 n1 c1 xs1 A2 n2 c2 xs2 A4 n4 c4 xs4 W2 :=
  ⟨h.bel.trans (ho.below h.bel.size (fun x hx => by simp at hx; subst hx; exact h.low.2)), h.low, ho.blk h.blk (fun hm => by simp at hm; exact h.blk.ne_ h.kn (by decide) hm), hk,
    h.o1.only ho (fun x hx hm => by simp at hm; subst hm; exact h.o1.blk_ne h.kn (by decide) hx), h.o2.only ho (fun x hx hm => by simp at hm; subst hm; exact h.o2.blk_ne h.kn (by decide) hx), h.o4.only ho (fun x hx hm => by simp at hm; subst hm; exact h.o4.blk_ne h.kn (by decide) hx)⟩
theorem done {B : Nat} {S : List Nat} {b : Nat} {st : LDoc} {D : RLay} (h0 : RDocIs w B S b st D) (hl : st.known.length = 8) (h : CpAt w p kb (ints st.known).toArray A1 st.book.length c1 (lcells st.book) A2 st.marks.length c2 (mcells st.marks) A4 st.ops.length c4 (ocells D.ys) W) : RCopyPost w B S st (.returned (.pointer (some ⟨p, 0, none⟩))) W := by
  have h3 : Own W w.heap.size 3 1 (some ⟨kb, 0, none⟩) 8 8 (ints st.known) := ⟨by simp [ints, hl], .inr ⟨kb, 8, _, rfl, h.low.2, h.kn, Nat.le_refl _, by decide, by simp [ints, hl], by rw [List.take_of_length_le (by simp [ints, hl])]⟩⟩
  obtain ⟨k1, k2, k3⟩ := rcopy_close h0 h.bel hl h.low.1 h.blk h.o1 h.o2 h3 h.o4
  exact ⟨p, _, _, rfl, k1, h.bel, k2, k3⟩
end CpAt
theorem splice_whole (xs : List Value) (h : xs.length = 8) : splice zeros8.toList 0 xs = xs := by
  unfold splice
  rw [List.take_zero, List.nil_append, Nat.zero_add, h, List.drop_of_length_le (by decide), List.append_nil]
set_option maxRecDepth 100000 in
set_option maxHeartbeats 4000000 in
theorem rcopy_any (w : World) (B : Nat) (S : List Nat) (b : Nat) (st : LDoc) (D : RLay) (h : RDocIs w B S b st D) (ok : st.Ok) : Calls Tryz.prog 19 #[.pointer (some ⟨b, 0, none⟩)] w (RCopyPost w B S st) := by
  have HN := Lib.hid (fun W => rnew_at W)
  have HH := Lib.hid h
  have HL8 := Lib.hid (vec_ok ok.known).1
  have HF1 : Hid (Fits (0 + st.book.length) 32) := Fits.of_small (by have := ok.book.few; omega) (by decide)
  have HF2 : Hid (Fits (0 + st.marks.length) 32) := Fits.of_small (by have := ok.marks.few; omega) (by decide)
  have HF4 : Hid (Fits (0 + st.ops.length) 72) := Fits.of_small (by have := ok.few; omega) (by decide)
  have HCD : Hid (∀ W, Below w.heap.size w W → W.cell? ⟨b, 0, none⟩ = some (.slice D.a1 st.book.length D.c1) ∧ W.cell? ⟨b, 1, none⟩ = some (.slice D.a2 st.marks.length D.c2) ∧ W.cell? ⟨b, 2, none⟩ = some (.slice D.a3 8 D.c3) ∧ W.cell? ⟨b, 3, none⟩ = some (.slice D.a4 st.ops.length D.c4)) := fun W hW => by
    have hk := h.blk.below hW h.blk.lt
    refine ⟨by rw [hk.cell]; rfl, by rw [hk.cell]; rfl, ?_, by rw [hk.cell]; rfl⟩
    have := hk.cell 2
    rw [this, ← HL8.out]; rfl
  have hbw : b < w.heap.size := h.blk.lt
  have HYS := Lib.hid h.ys_len
  clear h
  go_enter Tryz.func19, Tryz.ntmps19
  go_wp2_with fail
  refine (HN.out _).mono ?_
  rintro e w1 hnew
  obtain ⟨p, kb, rfl, hM⟩ : ∃ p kb, e = .returned (.pointer (some ⟨p, 0, none⟩)) ∧ CpAt w p kb zeros8 none 0 0 [] none 0 0 [] none 0 0 [] w1 :=
    ⟨w.heap.size + 1, w.heap.size, hnew.1, hnew.2.1, ⟨by omega, by omega⟩, hnew.2.2.2.1, hnew.2.2.2.2, Own.nil _ _ _ _, Own.nil _ _ _ _, Own.nil _ _ _ _⟩
  have HM := Lib.hid hM
  clear hM hnew HN
  go_upto_region 2 with (fail)
  go_cut [] (fun wx => ∃ V c, Hid (CpAt w p kb zeros8 V st.book.length c (lcells st.book) none 0 0 [] none 0 0 [] wx))
  case first =>
    obtain ⟨p0, p1, p2, p3⟩ := HM.out.cells
    obtain ⟨d0, d1, d2, d3⟩ := HCD.out _ HM.out.bel
    have HR : Hid (∀ k, Reads (w1.drewN k) w1.heap.size 3 D.a1 st.book.length (lcells st.book)) := fun k => ((HH.out.book.row.below HM.out.bel).more HM.out.bel.size).drewN k
    go_region_law ((refine step_app (base := w.heap.size) (xs := []) _ (.tmp 9) (.tmp 13) rfl rfl elemLf rfl rfl (Own.nil _ _ _ _) (HR.out _) (oneCells_l _) HF1.out (HM.out.bel.size) ?_
                    intro V c w2 hO hL hg
                    have hM2 := HM.out.only (W2 := w2) (by first | exact hL | exact (Only.refl _ _).drewN _ |>.trans hL)
                    have hfr := hM2.blk.frozen 0
                    obtain ⟨p0, p1, p2, p3⟩ := hM2.cells))
    all_goals
      go_wp2_with fail
      go_meet
      case rel =>
        rw [Nat.zero_add] at hO
        exact ⟨V, c, HM.out.app1 hO (by first | exact hL | exact (Only.refl _ _).drewN _ |>.trans hL)⟩
  case rest =>
  obtain ⟨V1, c1, HM'⟩ := hcut
  clear HM
  have HM := HM'
  clear HM'
  go_upto_region 3 with (fail)
  go_cut [] (fun wx => ∃ V c, Hid (CpAt w p kb zeros8 V1 st.book.length c1 (lcells st.book) V st.marks.length c (mcells st.marks) none 0 0 [] wx))
  case first =>
    obtain ⟨p0, p1, p2, p3⟩ := HM.out.cells
    obtain ⟨d0, d1, d2, d3⟩ := HCD.out _ HM.out.bel
    have HR : Hid (∀ k, Reads (wc.drewN k) wc.heap.size 3 D.a2 st.marks.length (mcells st.marks)) := fun k => ((HH.out.marks.row.below HM.out.bel).more HM.out.bel.size).drewN k
    go_region_law ((refine step_app (base := w.heap.size) (xs := []) _ (.tmp 21) (.tmp 25) rfl rfl elemMk rfl rfl (Own.nil _ _ _ _) (HR.out _) (oneCells_m _) HF2.out (HM.out.bel.size) ?_
                    intro V c w2 hO hL hg
                    have hM2 := HM.out.only (W2 := w2) (by first | exact hL | exact (Only.refl _ _).drewN _ |>.trans hL)
                    have hfr := hM2.blk.frozen 1
                    obtain ⟨p0, p1, p2, p3⟩ := hM2.cells))
    all_goals
      go_wp2_with fail
      go_meet
      case rel =>
        rw [Nat.zero_add] at hO
        exact ⟨V, c, HM.out.app2 hO (by first | exact hL | exact (Only.refl _ _).drewN _ |>.trans hL)⟩
  case rest =>
  obtain ⟨V2, c2, HM'⟩ := hcut
  clear HM
  have HM := HM'
  clear HM'
  go_upto_region 4 with (fail)
  go_cut [] (fun wx => Hid (CpAt w p kb (ints st.known).toArray V1 st.book.length c1 (lcells st.book) V2 st.marks.length c2 (mcells st.marks) none 0 0 [] wx))
  case first =>
    obtain ⟨g3, hg3, _⟩ := HH.out.known.head (by rw [HL8.out]; omega)
    obtain ⟨p0, p1, p2, p3⟩ := HM.out.cells
    obtain ⟨d0, d1, d2, d3⟩ := HCD.out _ HM.out.bel
    rw [hg3] at d2
    have HS : Hid (∀ k j v, (ints st.known)[j]? = some v → (wc.drewN k).cell? ((⟨g3, 0, none⟩ : Addr).add j) = some v) := fun k j v hv => by
      obtain ⟨ad, e, hb, hc⟩ := ((HH.out.known.reads.below HM.out.bel)).2 (by rw [HL8.out]; omega)
      rw [hg3] at e
      obtain rfl : (⟨g3, 0, none⟩ : Addr) = ad := by injection e
      exact hc j v hv
    clear hg3
    go_region_law (refine step_copy_blk _ (.tmp 32) (.tmp 36) rfl elemI rfl kb 0 8 8 ⟨g3, 0, none⟩ 8 D.c3 (by simp [Act.eval, Act.put]) (by simp [Act.eval, Act.put]) zeros8.toList (ints st.known) (by first | exact HM.out.kn | exact HM.out.kn.drewN _) (by simp [ints, HL8.out]) (HS.out _) (by simp [ints, HL8.out, zeros8]) (oneCells_ints _) ?_; intro w3 hb3 ho3)
    all_goals
      go_wp2_with fail
      go_meet
      case rel =>
        have hb4 := hb3.out
        rw [splice_whole _ (by simp [ints, HL8.out])] at hb4
        exact HM.out.known hb4 (by first | exact ho3.out | exact (Only.refl _ _).drewN _ |>.trans ho3.out)
  case rest =>
  clear HM
  have HM := hcut
  clear hcut
  go_upto_region 5 with (fail)
  go_cut [] (fun wx => ∃ V c, Hid (CpAt w p kb (ints st.known).toArray V1 st.book.length c1 (lcells st.book) V2 st.marks.length c2 (mcells st.marks) V st.ops.length c (ocells D.ys) wx))
  case first =>
    obtain ⟨p0, p1, p2, p3⟩ := HM.out.cells
    obtain ⟨d0, d1, d2, d3⟩ := HCD.out _ HM.out.bel
    have HR : Hid (∀ k, Reads (wc.drewN k) wc.heap.size 6 D.a4 st.ops.length (ocells D.ys)) := fun k => ((HH.out.ops.reads.below HM.out.bel).more HM.out.bel.size).drewN k
    go_region_law ((refine step_app (base := w.heap.size) (xs := []) _ (.tmp 42) (.tmp 46) rfl rfl elemOu rfl rfl (Own.nil _ _ _ _) (HR.out _) (ocells_one _) HF4.out (HM.out.bel.size) ?_
                    intro V c w2 hO hL hg
                    have hM2 := HM.out.only (W2 := w2) (by first | exact hL | exact (Only.refl _ _).drewN _ |>.trans hL)
                    have hfr := hM2.blk.frozen 3
                    obtain ⟨p0, p1, p2, p3⟩ := hM2.cells))
    all_goals
      go_wp2_with fail
      go_meet
      case rel =>
        rw [Nat.zero_add] at hO
        exact ⟨V, c, HM.out.app4 hO (by first | exact hL | exact (Only.refl _ _).drewN _ |>.trans hL)⟩
  case rest =>
  obtain ⟨V4, c4, HM'⟩ := hcut
  clear HM
  have HM := HM'
  clear HM'
  go_wp2_with fail
  go_ret
  exact HM.out.done HH.out HL8.out
end Go.Proofs.YthfbjfocmnikaaaGreatDoor
/- A log in a law, its document beside the reference's: the calls of a round, each in one sentence. Conditions: none of our own. -/
namespace Go.Proofs.YthfbjfocmnikaaaGreatDoor
open Go.RowKit
set_option linter.unusedVariables false
theorem LDoc.all_says : ∀ (l : List LOp) {d : LDoc}, d.Ok → Says d.ops d → Says (d.all l).ops (d.all l)
  | [], d => fun _ h => h
  | o :: t, d => fun ok h => LDoc.all_says t (LDoc.apply_ok ok o) (apply_says ok h o)
theorem LLog.says (L : LLog) : Says L.doc.ops L.doc := LDoc.all_says _ LDoc.new_ok Says.new
namespace KS
variable {w wr w' : World} {B b : Nat} {L L' : LLog} {sts : List LDoc} {ms : List Int} {A1 A2 : Option Addr} {c1 c2 : Nat} {K K0 ps T : List Nat}
theorem ok (h : KS w B b L sts ms A1 c1 A2 c2 wr K K0 ps) : L.Ok := h.log.ok
theorem below (h : KS w B b L sts ms A1 c1 A2 c2 wr K K0 ps) : Below w.heap.size w wr := h.log.below
/-- The log's document, and one of the others that says the same. -/
theorem twin (h : KS w B b L sts ms A1 c1 A2 c2 wr K K0 ps) {i p : Nat} (hp : ps[i]? = some p) (hs : sts[i]? = some L.doc) :
    ∃ bd S1 S2 D1 D2, Twin w B bd p L.doc L.doc wr S1 S2 D1 D2 ∧ ∀ W, Below wr.heap.size wr W → Calls Tryz.prog 13 #[.pointer (some ⟨b, 0, none⟩)] W (fun e w' => e = .returned (.pointer (some ⟨bd, 0, none⟩)) ∧ w' = W) := by
  obtain ⟨S2, D2, k1, k2⟩ := h.docs i p _ hp hs
  obtain ⟨h1, h2, h3, h0, S, bd, SD, D, h4, h5⟩ := h.log
  refine ⟨bd, SD, S2, D, D2, ⟨h4.doc, k1, fun g hg hm => (h5 g (h.sub g (k2 g hm))).1 (h4.sub g hg), h3, h2⟩, fun W hW => ?_⟩
  exact ldoc_any W B S b L bd SD D L.doc (h4.below hW)
/-- A copy of one of them. -/
theorem copy (h : KS w B b L sts ms A1 c1 A2 c2 wr K K0 ps) {i p : Nat} {st : LDoc} (hp : ps[i]? = some p) (hs : sts[i]? = some st) (ok : st.Ok) :
    Calls Tryz.prog 19 #[.pointer (some ⟨p, 0, none⟩)] wr (fun e w' => ∃ q K' S D, e = .returned (.pointer (some ⟨q, 0, none⟩)) ∧ KS w B b L sts ms A1 c1 A2 c2 w' K' K0 ps ∧ KX w' B A1 A2 K' K0 q st S D) := by
  obtain ⟨S, D, k1, k2⟩ := h.docs i p st hp hs
  refine (rcopy_any wr B S p st D k1 ok).mono ?_
  rintro e w' ⟨q, T, D', rfl, g1, g2, g3, g4⟩
  obtain ⟨K', r1, r2⟩ := h.withX g2 g1 (fun g hg => (List.mem_append.1 hg).imp (k2 g) (g3 g)) g4
  exact ⟨q, K', _, _, rfl, r1, r2⟩
/-- An op of the law's, applied to the copy. -/
theorem apply (h : KS w B b L sts ms A1 c1 A2 c2 wr K K0 ps) {p : Nat} {st : LDoc} {S : List Nat} {D : RLay} (x : KX wr B A1 A2 K K0 p st S D) (ok : st.Ok) (hs : Says st.ops st) (o : LOp) (A : Option Addr) (c : Nat) (hp : o.place.size ≤ 9223372036854775807) (hr : Reads w w.heap.size 2 A o.seen.length (dcells o.seen)) :
    Calls Tryz.prog 20 #[.pointer (some ⟨p, 0, none⟩), o.val A c] wr (fun e w' => e = .returned (.tuple #[.bool (st.applyB o), .int .i64 (st.applyE o)]) ∧ ∃ K' S' D', KS w B b L sts ms A1 c1 A2 c2 w' K' K0 ps ∧ KX w' B A1 A2 K' K0 p (st.apply o) S' D') := by
  have hB := h.log.base
  refine (rapply_doc wr B S p st D x.is ok hs o A c hp (Seat.of_arg hr h.below hB (fun g hg => (x.is.own g (x.is.sub g hg)).1))).mono ?_
  rintro e w' ⟨rfl, ht⟩
  exact ⟨rfl, h.turn x ht⟩
theorem put (h : KS w B b L sts ms A1 c1 A2 c2 wr K K0 ps) (o : LOp) (A : Option Addr) (c : Nat) (hp : o.place.size ≤ 9223372036854775807) (hr : Reads w w.heap.size 2 A o.seen.length (dcells o.seen)) {p : Nat} {st : LDoc} {S : List Nat} {D : RLay} (x : KX wr B A1 A2 K K0 p st S D) :
    Calls Tryz.prog 10 #[.pointer (some ⟨b, 0, none⟩), o.val A c] wr (fun e w' => e = .returned (.tuple #[.bool (L.putB o), errV (L.putE o)]) ∧ KS w B b (L.put o) sts ms A1 c1 A2 c2 w' K K0 ps ∧ KX w' B A1 A2 K K0 p st S D) :=
  (h.log.put o A c hp hr).mono fun e w' hh => ⟨hh.1, h.on hh.2.1 hh.2.2, onX x hh.2.2⟩
theorem sync (h : KS w B b L sts ms A1 c1 A2 c2 wr K K0 ps) : Calls Tryz.prog 11 #[.pointer (some ⟨b, 0, none⟩)] wr (fun e w' => e = .returned (errV L.syncE) ∧ KS w B b L.sync sts ms A1 c1 A2 c2 w' K K0 ps) :=
  h.log.sync.mono fun e w' hh => ⟨hh.1, h.on hh.2.1 hh.2.2⟩
theorem fail (h : KS w B b L sts ms A1 c1 A2 c2 wr K K0 ps) (n : Int) (hn0 : -9223372036854775808 ≤ n) (hn1 : n ≤ 9223372036854775807) : Calls Tryz.prog 18 #[.pointer (some ⟨b, 0, none⟩), .int .i64 n] wr (fun e w' => e = .returned (.tuple #[]) ∧ KS w B b (L.fail n) sts ms A1 c1 A2 c2 w' K K0 ps) :=
  (h.log.fail n hn0 hn1).mono fun e w' hh => ⟨hh.1, h.on hh.2.1 hh.2.2⟩
theorem crash (h : KS w B b L sts ms A1 c1 A2 c2 wr K K0 ps) (n : Int) (hn0 : -9223372036854775808 ≤ n) (hn1 : n ≤ 9223372036854775807) : Calls Tryz.prog 12 #[.pointer (some ⟨b, 0, none⟩), .int .i64 n] wr (fun e w' => e = .returned (.tuple #[]) ∧ KS w B b (L.crash n) sts ms A1 c1 A2 c2 w' K K0 ps) :=
  (h.log.crash n hn0 hn1).mono fun e w' hh => ⟨hh.1, h.on hh.2.1 hh.2.2⟩
/-- What can be read of the two rows. -/
theorem ptr (h : KS w B b L sts ms A1 c1 A2 c2 wr K K0 ps) {i p : Nat} (hp : ps[i]? = some p) : ∃ g, A1 = some ⟨g, 0, none⟩ ∧ ∀ W, Below wr.heap.size wr W → W.cell? ⟨g, i, none⟩ = some (.pointer (some ⟨p, 0, none⟩)) := by
  have hi : i < ps.length := by
    rcases Nat.lt_or_ge i ps.length with h1 | h1
    · exact h1
    · rw [List.getElem?_eq_none h1] at hp; cases hp
  obtain ⟨g, rfl, _⟩ := h.done.head (by omega)
  refine ⟨g, rfl, fun W hW => ?_⟩
  rw [(h.done.below hW).cellAt (by omega)]
  unfold pps
  rw [List.getElem?_map, hp]; rfl
theorem num (h : KS w B b L sts ms A1 c1 A2 c2 wr K K0 ps) {i : Nat} {m : Int} (hm : ms[i]? = some m) : ∃ g, A2 = some ⟨g, 0, none⟩ ∧ ∀ W, Below wr.heap.size wr W → W.cell? ⟨g, i, none⟩ = some (.int .i64 m) := by
  have hi : i < ms.length := by
    rcases Nat.lt_or_ge i ms.length with h1 | h1
    · exact h1
    · rw [List.getElem?_eq_none h1] at hm; cases hm
  obtain ⟨g, rfl, _⟩ := h.mark.head (by omega)
  refine ⟨g, rfl, fun W hW => ?_⟩
  rw [(h.mark.below hW).cellAt (by omega)]
  unfold ints
  rw [List.getElem?_map, hm]; rfl
end KS
/-- The log L, and beside it the documents that a log of the ops l has been. -/
def KAt (w : World) (B b : Nat) (L : LLog) (l : List LOp) (n : Nat) (A1 : Option Addr) (c1 : Nat) (A2 : Option Addr) (c2 : Nat) (wr : World) : Prop :=
  n = l.length ∧ ∃ K K0 ps, KS w B b L (LLog.trail l) (LLog.marks l) A1 c1 A2 c2 wr K K0 ps
/-- Another document beside it. -/
def KTwo (w : World) (B b : Nat) (L : LLog) (l : List LOp) (n : Nat) (A1 : Option Addr) (c1 : Nat) (A2 : Option Addr) (c2 : Nat) (q : Nat) (st : LDoc) (wr : World) : Prop :=
  n = l.length ∧ ∃ K K0 ps S D, KS w B b L (LLog.trail l) (LLog.marks l) A1 c1 A2 c2 wr K K0 ps ∧ KX wr B A1 A2 K K0 q st S D
/-- It is one of them already; its mark is lacking. -/
def KHalf (w : World) (B b : Nat) (L : LLog) (l : List LOp) (st : LDoc) (n : Nat) (A1 : Option Addr) (c1 : Nat) (A2 : Option Addr) (c2 : Nat) (wr : World) : Prop :=
  n = l.length ∧ ∃ K K0 ps, KS w B b L (LLog.trail l ++ [st]) (LLog.marks l) A1 c1 A2 c2 wr K K0 ps
namespace KAt
variable {w wr w' : World} {B b : Nat} {L L' : LLog} {l : List LOp} {n : Nat} {A1 A2 : Option Addr} {c1 c2 : Nat}
theorem ok (h : KAt w B b L l n A1 c1 A2 c2 wr) : L.Ok := by obtain ⟨_, K, K0, ps, h1⟩ := h; exact h1.ok
theorem len (h : KAt w B b L l n A1 c1 A2 c2 wr) : n = l.length := h.1
theorem below (h : KAt w B b L l n A1 c1 A2 c2 wr) : Below w.heap.size w wr := by obtain ⟨_, K, K0, ps, h1⟩ := h; exact h1.below
theorem step (h : KAt w B b L l n A1 c1 A2 c2 wr) (hb : Below wr.heap.size wr w') : KAt w B b L l n A1 c1 A2 c2 w' := by
  obtain ⟨h0, K, K0, ps, h1⟩ := h
  exact ⟨h0, K, K0, ps, h1.step hb⟩
theorem caps (h : KAt w B b L l n A1 c1 A2 c2 wr) : n + 1 ≤ c1 ∧ c1 ≤ 9223372036854775807 ∧ n + 1 ≤ c2 ∧ c2 ≤ 9223372036854775807 := by
  obtain ⟨h0, K, K0, ps, h1⟩ := h
  have e1 := h1.done.cap_le
  have e2 := h1.done.cap_max
  have e3 := h1.mark.cap_le
  have e4 := h1.mark.cap_max
  have e5 := h1.len
  rw [LLog.trail_len] at e5
  rw [LLog.marks_len] at e3
  unfold maxLen at e2 e4
  omega
theorem sync (h : KAt w B b L l n A1 c1 A2 c2 wr) : Calls Tryz.prog 11 #[.pointer (some ⟨b, 0, none⟩)] wr (fun e w' => e = .returned (errV L.syncE) ∧ KAt w B b L.sync l n A1 c1 A2 c2 w') := by
  obtain ⟨h0, K, K0, ps, h1⟩ := h
  exact h1.sync.mono fun e w' hh => ⟨hh.1, h0, K, K0, ps, hh.2⟩
theorem fail (h : KAt w B b L l n A1 c1 A2 c2 wr) (m : Int) (hn0 : -9223372036854775808 ≤ m) (hn1 : m ≤ 9223372036854775807) : Calls Tryz.prog 18 #[.pointer (some ⟨b, 0, none⟩), .int .i64 m] wr (fun e w' => e = .returned (.tuple #[]) ∧ KAt w B b (L.fail m) l n A1 c1 A2 c2 w') := by
  obtain ⟨h0, K, K0, ps, h1⟩ := h
  exact (h1.fail m hn0 hn1).mono fun e w' hh => ⟨hh.1, h0, K, K0, ps, hh.2⟩
theorem crash (h : KAt w B b L l n A1 c1 A2 c2 wr) (m : Int) (hn0 : -9223372036854775808 ≤ m) (hn1 : m ≤ 9223372036854775807) : Calls Tryz.prog 12 #[.pointer (some ⟨b, 0, none⟩), .int .i64 m] wr (fun e w' => e = .returned (.tuple #[]) ∧ KAt w B b (L.crash m) l n A1 c1 A2 c2 w') := by
  obtain ⟨h0, K, K0, ps, h1⟩ := h
  exact (h1.crash m hn0 hn1).mono fun e w' hh => ⟨hh.1, h0, K, K0, ps, hh.2⟩
theorem bytes (h : KAt w B b L l n A1 c1 A2 c2 wr) : Calls Tryz.prog 15 #[.pointer (some ⟨b, 0, none⟩)] wr (fun e w' => e = .returned (.int .i64 (L.m : Nat)) ∧ w' = wr) := by
  obtain ⟨h0, K, K0, ps, h1⟩ := h
  exact h1.log.bytes
theorem safe (h : KAt w B b L l n A1 c1 A2 c2 wr) : Calls Tryz.prog 16 #[.pointer (some ⟨b, 0, none⟩)] wr (fun e w' => e = .returned (.int .i64 (L.safe : Nat)) ∧ w' = wr) := by
  obtain ⟨h0, K, K0, ps, h1⟩ := h
  exact h1.log.safe
theorem get (h : KAt w B b L l n A1 c1 A2 c2 wr) {i : Nat} (hi : i ≤ n) : ∃ K K0 ps p, KS w B b L (LLog.trail l) (LLog.marks l) A1 c1 A2 c2 wr K K0 ps ∧ ps[i]? = some p := by
  obtain ⟨h0, K, K0, ps, h1⟩ := h
  have e5 := h1.len
  rw [LLog.trail_len] at e5
  exact ⟨K, K0, ps, ps[i]'(by omega), h1, List.getElem?_eq_getElem _⟩
/-- The last of them, and a copy of it. -/
theorem last (h : KAt w B b L L.kept n A1 c1 A2 c2 wr) : ∃ g p, A1 = some ⟨g, 0, none⟩ ∧ (∀ W, Below wr.heap.size wr W → W.cell? ⟨g, n, none⟩ = some (.pointer (some ⟨p, 0, none⟩))) ∧
    Calls Tryz.prog 19 #[.pointer (some ⟨p, 0, none⟩)] wr (fun e w' => ∃ q, e = .returned (.pointer (some ⟨q, 0, none⟩)) ∧ KTwo w B b L L.kept n A1 c1 A2 c2 q L.doc w') := by
  have h0 := h.len
  obtain ⟨K, K0, ps, p, h1, hp⟩ := h.get (Nat.le_refl _)
  obtain ⟨g, e1, e2⟩ := h1.ptr hp
  refine ⟨g, p, e1, e2, ?_⟩
  have hs : (LLog.trail L.kept)[n]? = some L.doc := by rw [h0]; exact LLog.trail_last L
  refine (h1.copy hp hs h1.ok.doc_ok).mono ?_
  rintro e w' ⟨q, K', S, D, rfl, k1, k2⟩
  exact ⟨q, rfl, h0, K', K0, ps, S, D, k1, k2⟩
/-- The log's document beside the one that says the same. -/
theorem twin (h : KAt w B b L l n A1 c1 A2 c2 wr) {i : Nat} (hi : i ≤ n) (hd : L.doc = LDoc.new.all (l.take i)) :
    ∃ g p bd S1 S2 D1 D2, A1 = some ⟨g, 0, none⟩ ∧ (∀ W, Below wr.heap.size wr W → W.cell? ⟨g, i, none⟩ = some (.pointer (some ⟨p, 0, none⟩))) ∧ Twin w B bd p L.doc L.doc wr S1 S2 D1 D2 ∧
      ∀ W, Below wr.heap.size wr W → Calls Tryz.prog 13 #[.pointer (some ⟨b, 0, none⟩)] W (fun e w' => e = .returned (.pointer (some ⟨bd, 0, none⟩)) ∧ w' = W) := by
  have h0 := h.len
  obtain ⟨K, K0, ps, p, h1, hp⟩ := h.get hi
  obtain ⟨g, e1, e2⟩ := h1.ptr hp
  have hs : (LLog.trail l)[i]? = some L.doc := by rw [LLog.trail_at l (by omega), hd]
  obtain ⟨bd, S1, S2, D1, D2, k1, k2⟩ := h1.twin hp hs
  exact ⟨g, p, bd, S1, S2, D1, D2, e1, e2, k1, k2⟩
theorem num (h : KAt w B b L l n A1 c1 A2 c2 wr) {i : Nat} (hi : i ≤ n) : ∃ g, A2 = some ⟨g, 0, none⟩ ∧ ∀ W, Below wr.heap.size wr W → W.cell? ⟨g, i, none⟩ = some (.int .i64 ((packBody (l.take i)).length : Nat)) := by
  have h0 := h.len
  obtain ⟨_, K, K0, ps, h1⟩ := h
  exact h1.num (LLog.marks_at l (by omega))
/-- What a crash left. -/
theorem cut (h : KAt w B b L l n A1 c1 A2 c2 wr) {k : Nat} (hk : k ≤ n) (he : L.kept = l.take k) : KAt w B b L L.kept k A1 c1 A2 c2 wr := by
  obtain ⟨h0, K, K0, ps, h1⟩ := h
  have e5 := h1.len
  rw [LLog.trail_len] at e5
  rw [he]
  refine ⟨by rw [List.length_take]; omega, K, K0, ps.take (k + 1), ?_⟩
  rw [LLog.trail_take l (by omega), LLog.marks_take l (by omega)]
  exact h1.cut (by omega) (by omega) (by rw [LLog.marks_len]; omega)
end KAt
namespace KTwo
variable {w wr w' : World} {B b q : Nat} {L L' : LLog} {l : List LOp} {n : Nat} {A1 A2 : Option Addr} {c1 c2 : Nat} {st : LDoc}
theorem below (h : KTwo w B b L l n A1 c1 A2 c2 q st wr) : Below w.heap.size w wr := by obtain ⟨_, K, K0, ps, S, D, h1, h2⟩ := h; exact h1.below
theorem ok (h : KTwo w B b L l n A1 c1 A2 c2 q st wr) : L.Ok := by obtain ⟨_, K, K0, ps, S, D, h1, h2⟩ := h; exact h1.ok
theorem step (h : KTwo w B b L l n A1 c1 A2 c2 q st wr) (hb : Below wr.heap.size wr w') : KTwo w B b L l n A1 c1 A2 c2 q st w' := by
  obtain ⟨h0, K, K0, ps, S, D, h1, h2⟩ := h
  exact ⟨h0, K, K0, ps, S, D, h1.step hb, KS.onX h2 (Off.of_below hb)⟩
theorem bytes (h : KTwo w B b L l n A1 c1 A2 c2 q st wr) : Calls Tryz.prog 15 #[.pointer (some ⟨b, 0, none⟩)] wr (fun e w' => e = .returned (.int .i64 (L.m : Nat)) ∧ w' = wr) := by
  obtain ⟨h0, K, K0, ps, S, D, h1, h2⟩ := h
  exact h1.log.bytes
theorem apply (h : KTwo w B b L l n A1 c1 A2 c2 q st wr) (ok : st.Ok) (hs : Says st.ops st) (o : LOp) (A : Option Addr) (c : Nat) (hp : o.place.size ≤ 9223372036854775807) (hr : Reads w w.heap.size 2 A o.seen.length (dcells o.seen)) :
    Calls Tryz.prog 20 #[.pointer (some ⟨q, 0, none⟩), o.val A c] wr (fun e w' => e = .returned (.tuple #[.bool (st.applyB o), .int .i64 (st.applyE o)]) ∧ KTwo w B b L l n A1 c1 A2 c2 q (st.apply o) w') := by
  obtain ⟨h0, K, K0, ps, S, D, h1, h2⟩ := h
  refine (h1.apply h2 ok hs o A c hp hr).mono ?_
  rintro e w' ⟨rfl, K', S', D', k1, k2⟩
  exact ⟨rfl, h0, K', K0, ps, S', D', k1, k2⟩
theorem put (h : KTwo w B b L l n A1 c1 A2 c2 q st wr) (o : LOp) (A : Option Addr) (c : Nat) (hp : o.place.size ≤ 9223372036854775807) (hr : Reads w w.heap.size 2 A o.seen.length (dcells o.seen)) :
    Calls Tryz.prog 10 #[.pointer (some ⟨b, 0, none⟩), o.val A c] wr (fun e w' => e = .returned (.tuple #[.bool (L.putB o), errV (L.putE o)]) ∧ KTwo w B b (L.put o) l n A1 c1 A2 c2 q st w') := by
  obtain ⟨h0, K, K0, ps, S, D, h1, h2⟩ := h
  refine (h1.put o A c hp hr h2).mono ?_
  rintro e w' ⟨rfl, k1, k2⟩
  exact ⟨rfl, h0, K, K0, ps, S, D, k1, k2⟩
/-- It is let go. -/
theorem drop (h : KTwo w B b L l n A1 c1 A2 c2 q st wr) : KAt w B b L l n A1 c1 A2 c2 wr := by
  obtain ⟨h0, K, K0, ps, S, D, h1, h2⟩ := h
  exact ⟨h0, K, K0, ps, h1⟩
/-- The row to which it is appended. -/
theorem room (h : KTwo w B b L l n A1 c1 A2 c2 q st wr) : B ≤ wr.heap.size ∧ ∃ xs, Own wr B 41 1 A1 (n + 1) c1 xs ∧ ∀ W A' c' w', Below wr.heap.size wr W → Own w' B 41 1 A' (n + 1 + 1) c' (xs ++ [.pointer (some ⟨q, 0, none⟩)]) → Only (ob A1) W w' → (∀ g ∈ ob A', g ∈ ob A1 ∨ g = W.heap.size) →
    KHalf w B b L l st n A' c' A2 c2 w' := by
  obtain ⟨h0, K, K0, ps, S, D, h1, h2⟩ := h
  have e5 := h1.len
  rw [LLog.trail_len] at e5
  have e6 : ps.length = n + 1 := by omega
  refine ⟨h1.log.2.2.2.1, pps ps, by rw [← e6]; exact h1.done, fun W A' c' w' hW hO hL hg => ?_⟩
  have hz := hW.size
  obtain ⟨K', k1⟩ := (h1.step hW).push1 (KS.onX h2 (Off.of_below hW)) (by rw [e6]; exact hO) hL (fun g hm => (hg g hm).imp id (fun e => by omega))
  exact ⟨h0, K', _, _, k1⟩
end KTwo
namespace KHalf
variable {w wr w' : World} {B b : Nat} {L L' : LLog} {l : List LOp} {n : Nat} {A1 A2 : Option Addr} {c1 c2 : Nat} {st : LDoc}
theorem below (h : KHalf w B b L l st n A1 c1 A2 c2 wr) : Below w.heap.size w wr := by obtain ⟨_, K, K0, ps, h1⟩ := h; exact h1.below
theorem bytes (h : KHalf w B b L l st n A1 c1 A2 c2 wr) : Calls Tryz.prog 15 #[.pointer (some ⟨b, 0, none⟩)] wr (fun e w' => e = .returned (.int .i64 (L.m : Nat)) ∧ w' = wr) := by
  obtain ⟨h0, K, K0, ps, h1⟩ := h
  exact h1.log.bytes
/-- Its mark is appended. -/
theorem room (h : KHalf w B b L l st n A1 c1 A2 c2 wr) {o : LOp} (hst : st = LDoc.new.all (l ++ [o])) {m : Nat} (hm : m = (packBody (l ++ [o])).length) : B ≤ wr.heap.size ∧ ∃ xs, Own wr B 3 1 A2 (n + 1) c2 xs ∧ ∀ W A' c' w', Below wr.heap.size wr W → Own w' B 3 1 A' (n + 1 + 1) c' (xs ++ [.int .i64 (m : Nat)]) → Only (ob A2) W w' → (∀ g ∈ ob A', g ∈ ob A2 ∨ g = W.heap.size) →
    KAt w B b L (l ++ [o]) (n + 1) A1 c1 A' c' w' := by
  obtain ⟨h0, K, K0, ps, h1⟩ := h
  have e6 : (LLog.marks l).length = n + 1 := by rw [LLog.marks_len]; omega
  refine ⟨h1.log.2.2.2.1, ints (LLog.marks l), by rw [← e6]; exact h1.mark, fun W A' c' w' hW hO hL hg => ?_⟩
  have hz := hW.size
  obtain ⟨K', k1⟩ := (h1.step hW).push2 (m := (m : Int)) (by rw [e6]; exact hO) hL (fun g hm => (hg g hm).imp id (fun e => by omega))
  refine ⟨by rw [List.length_append, ← h0]; rfl, K', K0, ps, ?_⟩
  rw [LLog.trail_snoc, LLog.marks_snoc, ← hst, ← hm]
  exact k1
end KHalf
end Go.Proofs.YthfbjfocmnikaaaGreatDoor

/- leafsame.Op, leafsame.Ops, walked. Conditions: few elements. -/
import Derived.Test.YtlcjgldlblpboaaDoorOpenOps
import Derived.Test.YtlcjgldlblpboaaDoorSameDots
namespace Go.Proofs.YtlcjgldlblpboaaDoor
open Go.RowKit
set_option linter.unusedVariables false
namespace SameOp
instance dec : DecidableEq LOp := fun a b => by
  obtain ⟨⟨a0, a1⟩, a2, a3, a4, a5⟩ := a
  obtain ⟨⟨b0, b1⟩, b2, b3, b4, b5⟩ := b
  simp only [LOp.mk.injEq, LDot.mk.injEq]
  exact inferInstance
theorem beq_str {x y : ByteArray} : (x.toList == y.toList) = decide (x = y) := by
  rw [Bool.eq_iff_iff, beq_iff_eq, decide_eq_true_iff, same_toList]
set_option maxRecDepth 100000 in
set_option maxHeartbeats 2000000 in
theorem any (w : World) (x y : LOp) (A G : Option Addr) (ca cg : Nat) (h1 : Reads w w.heap.size 2 A x.seen.length (dcells x.seen)) (h2 : Reads w w.heap.size 2 G y.seen.length (dcells y.seen)) (hl : x.seen.length ≤ 9223372036854775807) (hm : y.seen.length ≤ 9223372036854775807) :
    Calls Tryd.prog 11 #[x.val A ca, y.val G cg] w (SamePost w (decide (x = y))) := by
  obtain ⟨W0, hW0⟩ : ∃ W0, W0 = (w.alloc (.cells (x.cells A ca) 26)).alloc (.cells (y.cells G cg) 26) := ⟨_, rfl⟩
  have hb0 : Below w.heap.size w W0 := by rw [hW0]; exact ((Below.refl _ _).alloc (Nat.le_refl _) _).alloc (by simp) _
  have HB0 := Lib.hid hb0
  have hs0 : (w.alloc (.cells (x.cells A ca) 26)).heap.size = w.heap.size + 1 := by simp
  have bx : Blk W0 w.heap.size 26 (x.cells A ca) := by rw [hW0]; exact (Blk.new w _ _).alloc _
  have by_ : Blk W0 (w.heap.size + 1) 26 (y.cells G cg) := by rw [hW0]; unfold Blk; rw [← hs0]; exact heap_alloc_new _ _
  have HC := Lib.hid (SameDots.any_big W0 A G ca cg x.seen y.seen ((h1.below hb0).more hb0.size) ((h2.below hb0).more hb0.size) hl hm)
  have HCX : Hid (∀ W, Below W0.heap.size W0 W → W.cell? ⟨w.heap.size, 0, none⟩ = some (.int .i64 x.dot.who) ∧ W.cell? ⟨w.heap.size, 1, none⟩ = some (.int .i64 x.dot.n) ∧ W.cell? ⟨w.heap.size, 2, none⟩ = some (.int .i64 x.what) ∧ W.cell? ⟨w.heap.size, 3, none⟩ = some (.string x.place) ∧ W.cell? ⟨w.heap.size, 4, none⟩ = some (.int .i64 x.letter) ∧ W.cell? ⟨w.heap.size, 5, none⟩ = some (.slice A x.seen.length ca)) := fun W hb => by
    have h := bx.below hb bx.lt
    exact ⟨h.cell 0, h.cell 1, h.cell 2, h.cell 3, h.cell 4, h.cell 5⟩
  have HCY : Hid (∀ W, Below W0.heap.size W0 W → W.cell? ⟨w.heap.size + 1, 0, none⟩ = some (.int .i64 y.dot.who) ∧ W.cell? ⟨w.heap.size + 1, 1, none⟩ = some (.int .i64 y.dot.n) ∧ W.cell? ⟨w.heap.size + 1, 2, none⟩ = some (.int .i64 y.what) ∧ W.cell? ⟨w.heap.size + 1, 3, none⟩ = some (.string y.place) ∧ W.cell? ⟨w.heap.size + 1, 4, none⟩ = some (.int .i64 y.letter) ∧ W.cell? ⟨w.heap.size + 1, 5, none⟩ = some (.slice G y.seen.length cg)) := fun W hb => by
    have h := by_.below hb by_.lt
    exact ⟨h.cell 0, h.cell 1, h.cell 2, h.cell 3, h.cell 4, h.cell 5⟩
  have HQ := Lib.hid (fun W => SameDots.eq_one W x.dot.who y.dot.who x.dot.n y.dot.n)
  have HX : Hid (x = y ↔ x.seen = y.seen ∧ (x.dot.who = y.dot.who ∧ x.dot.n = y.dot.n) ∧ x.what = y.what ∧ x.place = y.place ∧ x.letter = y.letter) := by
    obtain ⟨⟨a, b⟩, c, d, e, f⟩ := x
    obtain ⟨⟨a', b'⟩, c', d', e', f'⟩ := y
    show _ ↔ _
    simp only [LOp.mk.injEq, LDot.mk.injEq]
    constructor
    · rintro ⟨⟨h1, h2⟩, h3, h4, h5, h6⟩; exact ⟨h6, ⟨h1, h2⟩, h3, h4, h5⟩
    · rintro ⟨h6, ⟨h1, h2⟩, h3, h4, h5⟩; exact ⟨⟨h1, h2⟩, h3, h4, h5, h6⟩
  have hfin : ∀ b : Bool, (b = true ↔ x = y) → decide (x = y) = b := fun b h => by
    rw [Bool.eq_iff_iff, decide_eq_true_iff]; exact h.symm
  have HFIN := Lib.hid hfin
  clear h1 h2 bx by_ hb0 hfin
  obtain ⟨⟨xw, xn⟩, xa, xp, xl, xs⟩ := x
  obtain ⟨⟨yw, yn⟩, ya, yp, yl, ys⟩ := y
  unfold LOp.val
  unfold LOp.cells at hW0
  simp only at hW0 HC HCX HCY HQ HX HFIN hl hm ⊢
  have HBR : Hid (Below W0.heap.size W0 W0) := Below.refl _ _
  obtain ⟨c0, c1, c2, c3, c4, c5⟩ := HCX.out _ HBR.out
  obtain ⟨d0, d1, d2, d3, d4, d5⟩ := HCY.out _ HBR.out
  go_enter Tryd.func11, Tryd.ntmps11
  go_wp2_with fail
  rw [← hW0]
  clear hW0
  refine HC.out.mono ?_
  rintro e w2 ⟨rfl, hb⟩
  have HB2 := Lib.hid (HB0.out.trans (hb.mono HB0.out.size))
  clear c0 c1 c2 c3 c4 c5 d0 d1 d2 d3 d4 d5
  obtain ⟨c0, c1, c2, c3, c4, c5⟩ := HCX.out _ hb
  obtain ⟨d0, d1, d2, d3, d4, d5⟩ := HCY.out _ hb
  clear hb HC HCX HCY
  by_cases hs : xs = ys
  · rw [decide_eq_true hs]
    have HS := Lib.hid hs
    clear hs
    by_cases hd : xw = yw ∧ xn = yn
    · have hq : ∀ W, (Op.equalIn 10000 23 (.agg #[.int .i64 xw, .int .i64 xn]) (.agg #[.int .i64 yw, .int .i64 yn])).run Tryd.prog W = .ok true W := fun W => by rw [HQ.out W]; simp [hd.1, hd.2]
      have HD := Lib.hid hd
      clear hd
      by_cases ha : xa = ya
      · have g1 : (xa == ya) = true := by rw [beq_iff_eq]; exact ha
        have HA := Lib.hid ha
        clear ha
        by_cases hp : xp = yp
        · have g2 : (xp.toList == yp.toList) = true := by rw [beq_str, decide_eq_true hp]
          have HP := Lib.hid hp
          clear hp
          by_cases hl : xl = yl
          · have g3 : (xl == yl) = true := by rw [beq_iff_eq]; exact hl
            have HF := Lib.hid (HFIN.out true ⟨fun _ => HX.out.2 ⟨HS.out, HD.out, HA.out, HP.out, hl⟩, fun _ => rfl⟩)
            clear hl
            go_wp2_with fail
            go_ret
            exact ⟨by rw [HF.out]; rfl, HB2.out⟩
          · have g3 : (xl == yl) = false := by rw [beq_eq_false_iff_ne]; exact hl
            have HF := Lib.hid (HFIN.out false ⟨(fun h => nomatch h), fun h => absurd (HX.out.1 h).2.2.2.2 hl⟩)
            clear hl
            go_wp2_with fail
            go_ret
            exact ⟨by rw [HF.out]; rfl, HB2.out⟩
        · have g2 : (xp.toList == yp.toList) = false := by rw [beq_str, decide_eq_false hp]
          have HF := Lib.hid (HFIN.out false ⟨(fun h => nomatch h), fun h => absurd (HX.out.1 h).2.2.2.1 hp⟩)
          clear hp
          go_wp2_with fail
          go_ret
          exact ⟨by rw [HF.out]; rfl, HB2.out⟩
      · have g1 : (xa == ya) = false := by rw [beq_eq_false_iff_ne]; exact ha
        have HF := Lib.hid (HFIN.out false ⟨(fun h => nomatch h), fun h => absurd (HX.out.1 h).2.2.1 ha⟩)
        clear ha
        go_wp2_with fail
        go_ret
        exact ⟨by rw [HF.out]; rfl, HB2.out⟩
    · have hq : ∀ W, (Op.equalIn 10000 23 (.agg #[.int .i64 xw, .int .i64 xn]) (.agg #[.int .i64 yw, .int .i64 yn])).run Tryd.prog W = .ok false W := fun W => by
        rw [HQ.out W]
        by_cases h1 : xw = yw
        · have h2 : xn ≠ yn := fun h => hd ⟨h1, h⟩
          simp [h2]
        · simp [h1]
      have HF := Lib.hid (HFIN.out false ⟨(fun h => nomatch h), fun h => absurd (HX.out.1 h).2.1 hd⟩)
      clear hd
      go_wp2_with fail
      go_ret
      exact ⟨by rw [HF.out]; rfl, HB2.out⟩
  · rw [decide_eq_false hs]
    have HF := Lib.hid (HFIN.out false ⟨(fun h => nomatch h), fun h => absurd (HX.out.1 h).1 hs⟩)
    clear hs
    go_wp2_with fail
    go_ret
    exact ⟨by rw [HF.out]; rfl, HB2.out⟩
end SameOp
end Go.Proofs.YtlcjgldlblpboaaDoor

/- 4 texts in one: each says ahead of itself what is proved, and its conditions. -/
import Derived.Deep.RegionHeld3
import Derived.Test.YthfbjfocmnikaaaGreatDoorDocHelp
import Derived.Test.YthfbjfocmnikaaaGreatDoorDocOps
import Derived.Test.YthfbjfocmnikaaaGreatDoorLetter
import Derived.Test.YthfbjfocmnikaaaGreatDoorOpenOps
import Derived.Test.YthfbjfocmnikaaaGreatDoorRefCopyAt
import Derived.Test.YthfbjfocmnikaaaGreatDoorRefIn
import Derived.Test.YthfbjfocmnikaaaGreatDoorRefText
import Derived.Test.YthfbjfocmnikaaaGreatDoorSame0
/- leafsame.Dots, walked. Conditions: few elements. -/
namespace Go.Proofs.YthfbjfocmnikaaaGreatDoor
open Go.RowKit
set_option linter.unusedVariables false
namespace SameDots
instance dec : DecidableEq LDot := fun a b => by
  cases a; cases b
  simp only [LDot.mk.injEq]
  exact inferInstance
set_option maxRecDepth 100000 in
theorem eq_one (W : World) (x0 y0 : Int) (x1 y1 : Int) : (Op.equalIn 10000 27 (.agg #[.int .i64 x0, .int .i64 x1]) (.agg #[.int .i64 y0, .int .i64 y1])).run Tryz.prog W = .ok (x0 == y0 && (x1 == y1)) W := by
  have ui := Tryz.underlying3
  have hS : Tryz.prog.underlying 27 = some (.struct (Tryz.prog.fieldsOf 27)) := by kernel_rfl
  have hp : Tryz.prog.stoodInHeld 27 = false := by kernel_rfl
  rw [show (10000 : Nat) = 9999 + 1 from rfl, run_equalIn_agg W 9999 27 _ _ hS hp]
  simp only [Program.fieldsOf, Tryz.underlying27]
  go_simp
  by_cases h0 : x0 = y0 <;> by_cases h1 : x1 = y1 <;> simp [h0, h1]
theorem same_one {x0 y0 : Int} {x1 y1 : Int} : (x0 == y0 && (x1 == y1)) = decide ((⟨x0, x1⟩ : LDot) = ⟨y0, y1⟩) := by
  rw [Bool.eq_iff_iff]
  simp only [Bool.and_eq_true, beq_iff_eq, decide_eq_true_eq, LDot.mk.injEq]
def Loop (w : World) (l m : List LDot) (i : Value) (wr : World) : Prop :=
  ∃ k : Nat, k ≤ l.length ∧ i = .int .i64 k ∧ Hid (Below w.heap.size w wr) ∧ Hid (decide (l = m) = decide (l.drop k = m.drop k))
set_option maxRecDepth 100000 in
set_option maxHeartbeats 1000000 in
theorem any_big (w : World) (A G : Option Addr) (ca cg : Nat) (l m : List LDot) (h1 : Reads w w.heap.size 2 A l.length (dcells l)) (h2 : Reads w w.heap.size 2 G m.length (dcells m)) (hl : l.length ≤ 9223372036854775807) (hm : m.length ≤ 9223372036854775807) :
    Calls Tryz.prog 43 #[.slice A l.length ca, .slice G m.length cg] w (SamePost w (decide (l = m))) := by
  have HR := Lib.hid h1
  have HS := Lib.hid h2
  clear h1 h2
  by_cases hlm : l.length = m.length
  · have HLM := Lib.hid hlm
    have e0 : ((l.length : Int) != (m.length : Int)) = false := by simp [hlm]
    have e1 : ((l.length : Int) == (m.length : Int)) = true := by simp [hlm]
    clear hlm
    go_enter Tryz.func43, Tryz.ntmps43
    go_wp2_with fail
    go_loopw [5] (fun i wr => Loop w l m i wr) (fun i _ => l.length - (intOf i).toNat)
    case atStart => exact ⟨0, by omega, rfl, Below.refl _ _, Lib.hid rfl⟩
    case round =>
      obtain ⟨k, hk, rfl, HB, HE⟩ := hrel
      by_cases hkn : k < l.length
      · have hkm : k < m.length := by have := HLM.out; omega
        obtain ⟨ad, hA, _, c0, c1⟩ := (HR.out.below HB.out).dot hkn
        obtain ⟨ag, hG, _, g0, g1⟩ := (HS.out.below HB.out).dot hkm
        have k1 : (k : Int) < (l.length : Int) := by omega
        have k2 : (k : Int) < (m.length : Int) := by omega
        have k0 : (0 : Int) ≤ (k : Int) := by omega
        subst hA hG
        have hdr : (l.drop k = m.drop k) = (l[k] = m[k] ∧ l.drop (k + 1) = m.drop (k + 1)) := by
          rw [List.drop_eq_getElem_cons hkn, List.drop_eq_getElem_cons hkm, List.cons.injEq]
        have HDR := Lib.hid hdr
        clear hdr
        generalize l[k] = x at *
        generalize m[k] = y at *
        obtain ⟨x0, x1⟩ := x
        obtain ⟨y0, y1⟩ := y
        simp only at c0 c1 g0 g1
        by_cases hxy : (⟨x0, x1⟩ : LDot) = ⟨y0, y1⟩
        · have HN : Hid (decide (l = m) = decide (l.drop (k + 1) = m.drop (k + 1))) := by
            show _ = _
            rw [HE.out]; congr 1; rw [HDR.out]; simp [hxy]
          have hq : ∀ W, (Op.equalIn 10000 27 (.agg #[.int .i64 x0, .int .i64 x1]) (.agg #[.int .i64 y0, .int .i64 y1])).run Tryz.prog W = .ok true W := fun W => by rw [eq_one, same_one, decide_eq_true hxy]
          clear HDR HE hxy
          go_wp2_with fail
          go_quiet (fail)
          go_wp2_with fail
          go_roundw
          case rel => exact ⟨k + 1, by omega, by go_num, below_drewN HB.out _, HN⟩
          case measure => simp [intOf]; omega
        · have HN : Hid (decide (l = m) = false) := by
            show _ = _
            rw [HE.out, decide_eq_false_iff_not, HDR.out]; exact fun h => hxy h.1
          have hq : ∀ W, (Op.equalIn 10000 27 (.agg #[.int .i64 x0, .int .i64 x1]) (.agg #[.int .i64 y0, .int .i64 y1])).run Tryz.prog W = .ok false W := fun W => by rw [eq_one, same_one, decide_eq_false hxy]
          clear HDR HE hxy
          go_wp2_with fail
          go_quiet (fail)
          go_wp2_with fail
          go_ret
          exact ⟨by rw [HN.out]; rfl, below_drewN HB.out _⟩
      · have HN : Hid (decide (l = m) = true) := by
          show _ = _
          rw [HE.out, List.drop_of_length_le (by omega), List.drop_of_length_le (by have := HLM.out; omega)]; rfl
        have hd : decide ((k : Int) < (l.length : Int)) = false := by simp; omega
        go_wp2_with fail
        go_ret
        exact ⟨by rw [HN.out]; rfl, HB.out⟩
  · have HF : Hid (decide (l = m) = false) := decide_eq_false (fun h => hlm (by rw [h]))
    have e0 : ((l.length : Int) != (m.length : Int)) = true := by simp; omega
    have e1 : ((l.length : Int) == (m.length : Int)) = false := by simp; omega
    clear hlm
    go_enter Tryz.func43, Tryz.ntmps43
    go_wp2_with fail
    go_ret
    exact ⟨by rw [HF.out]; rfl, Below.refl _ _⟩
theorem any (w : World) (A G : Option Addr) (ca cg : Nat) (l m : List LDot) (h1 : Reads w w.heap.size 2 A l.length (dcells l)) (h2 : Reads w w.heap.size 2 G m.length (dcells m)) (hl : l.length ≤ 1000000) (hm : m.length ≤ 1000000) :
    Calls Tryz.prog 43 #[.slice A l.length ca, .slice G m.length cg] w (SamePost w (decide (l = m))) := any_big w A G ca cg l m h1 h2 (by omega) (by omega)
end SameDots
end Go.Proofs.YthfbjfocmnikaaaGreatDoor
/- leafsame.Op, leafsame.Ops, walked. Conditions: few elements. -/
namespace Go.Proofs.YthfbjfocmnikaaaGreatDoor
open Go.RowKit
set_option linter.unusedVariables false
namespace SameOp
instance dec : DecidableEq LOp := fun a b => by
  obtain ⟨⟨a0, a1⟩, a2, a3, a4, a5⟩ := a
  obtain ⟨⟨b0, b1⟩, b2, b3, b4, b5⟩ := b
  simp only [LOp.mk.injEq, LDot.mk.injEq]
  exact inferInstance
theorem beq_str {x y : ByteArray} : (x.toList == y.toList) = decide (x = y) := by
  rw [Bool.eq_iff_iff, beq_iff_eq, decide_eq_true_iff, same_toList]
set_option maxRecDepth 100000 in
set_option maxHeartbeats 2000000 in
theorem any (w : World) (x y : LOp) (A G : Option Addr) (ca cg : Nat) (h1 : Reads w w.heap.size 2 A x.seen.length (dcells x.seen)) (h2 : Reads w w.heap.size 2 G y.seen.length (dcells y.seen)) (hl : x.seen.length ≤ 9223372036854775807) (hm : y.seen.length ≤ 9223372036854775807) :
    Calls Tryz.prog 96 #[x.val A ca, y.val G cg] w (SamePost w (decide (x = y))) := by
  obtain ⟨W0, hW0⟩ : ∃ W0, W0 = (w.alloc (.cells (x.cells A ca) 30)).alloc (.cells (y.cells G cg) 30) := ⟨_, rfl⟩
  have hb0 : Below w.heap.size w W0 := by rw [hW0]; exact ((Below.refl _ _).alloc (Nat.le_refl _) _).alloc (by simp) _
  have HB0 := Lib.hid hb0
  have hs0 : (w.alloc (.cells (x.cells A ca) 30)).heap.size = w.heap.size + 1 := by simp
  have bx : Blk W0 w.heap.size 30 (x.cells A ca) := by rw [hW0]; exact (Blk.new w _ _).alloc _
  have by_ : Blk W0 (w.heap.size + 1) 30 (y.cells G cg) := by rw [hW0]; unfold Blk; rw [← hs0]; exact heap_alloc_new _ _
  have HC := Lib.hid (SameDots.any_big W0 A G ca cg x.seen y.seen ((h1.below hb0).more hb0.size) ((h2.below hb0).more hb0.size) hl hm)
  have HCX : Hid (∀ W, Below W0.heap.size W0 W → W.cell? ⟨w.heap.size, 0, none⟩ = some (.int .i64 x.dot.who) ∧ W.cell? ⟨w.heap.size, 1, none⟩ = some (.int .i64 x.dot.n) ∧ W.cell? ⟨w.heap.size, 2, none⟩ = some (.int .i64 x.what) ∧ W.cell? ⟨w.heap.size, 3, none⟩ = some (.string x.place) ∧ W.cell? ⟨w.heap.size, 4, none⟩ = some (.int .i64 x.letter) ∧ W.cell? ⟨w.heap.size, 5, none⟩ = some (.slice A x.seen.length ca)) := fun W hb => by
    have h := bx.below hb bx.lt
    exact ⟨h.cell 0, h.cell 1, h.cell 2, h.cell 3, h.cell 4, h.cell 5⟩
  have HCY : Hid (∀ W, Below W0.heap.size W0 W → W.cell? ⟨w.heap.size + 1, 0, none⟩ = some (.int .i64 y.dot.who) ∧ W.cell? ⟨w.heap.size + 1, 1, none⟩ = some (.int .i64 y.dot.n) ∧ W.cell? ⟨w.heap.size + 1, 2, none⟩ = some (.int .i64 y.what) ∧ W.cell? ⟨w.heap.size + 1, 3, none⟩ = some (.string y.place) ∧ W.cell? ⟨w.heap.size + 1, 4, none⟩ = some (.int .i64 y.letter) ∧ W.cell? ⟨w.heap.size + 1, 5, none⟩ = some (.slice G y.seen.length cg)) := fun W hb => by
    have h := by_.below hb by_.lt
    exact ⟨h.cell 0, h.cell 1, h.cell 2, h.cell 3, h.cell 4, h.cell 5⟩
  have HQ := Lib.hid (fun W => SameDots.eq_one W x.dot.who y.dot.who x.dot.n y.dot.n)
  have HX : Hid (x = y ↔ x.seen = y.seen ∧ (x.dot.who = y.dot.who ∧ x.dot.n = y.dot.n) ∧ x.what = y.what ∧ x.place = y.place ∧ x.letter = y.letter) := by
    obtain ⟨⟨a, b⟩, c, d, e, f⟩ := x
    obtain ⟨⟨a', b'⟩, c', d', e', f'⟩ := y
    show _ ↔ _
    simp only [LOp.mk.injEq, LDot.mk.injEq]
    constructor
    · rintro ⟨⟨h1, h2⟩, h3, h4, h5, h6⟩; exact ⟨h6, ⟨h1, h2⟩, h3, h4, h5⟩
    · rintro ⟨h6, ⟨h1, h2⟩, h3, h4, h5⟩; exact ⟨⟨h1, h2⟩, h3, h4, h5, h6⟩
  have hfin : ∀ b : Bool, (b = true ↔ x = y) → decide (x = y) = b := fun b h => by
    rw [Bool.eq_iff_iff, decide_eq_true_iff]; exact h.symm
  have HFIN := Lib.hid hfin
  clear h1 h2 bx by_ hb0 hfin
  obtain ⟨⟨xw, xn⟩, xa, xp, xl, xs⟩ := x
  obtain ⟨⟨yw, yn⟩, ya, yp, yl, ys⟩ := y
  unfold LOp.val
  unfold LOp.cells at hW0
  simp only at hW0 HC HCX HCY HQ HX HFIN hl hm ⊢
  have HBR : Hid (Below W0.heap.size W0 W0) := Below.refl _ _
  obtain ⟨c0, c1, c2, c3, c4, c5⟩ := HCX.out _ HBR.out
  obtain ⟨d0, d1, d2, d3, d4, d5⟩ := HCY.out _ HBR.out
  go_enter Tryz.func96, Tryz.ntmps96
  go_wp2_with fail
  rw [← hW0]
  clear hW0
  refine HC.out.mono ?_
  rintro e w2 ⟨rfl, hb⟩
  have HB2 := Lib.hid (HB0.out.trans (hb.mono HB0.out.size))
  clear c0 c1 c2 c3 c4 c5 d0 d1 d2 d3 d4 d5
  obtain ⟨c0, c1, c2, c3, c4, c5⟩ := HCX.out _ hb
  obtain ⟨d0, d1, d2, d3, d4, d5⟩ := HCY.out _ hb
  clear hb HC HCX HCY
  by_cases hs : xs = ys
  · rw [decide_eq_true hs]
    have HS := Lib.hid hs
    clear hs
    by_cases hd : xw = yw ∧ xn = yn
    · have hq : ∀ W, (Op.equalIn 10000 27 (.agg #[.int .i64 xw, .int .i64 xn]) (.agg #[.int .i64 yw, .int .i64 yn])).run Tryz.prog W = .ok true W := fun W => by rw [HQ.out W]; simp [hd.1, hd.2]
      have HD := Lib.hid hd
      clear hd
      by_cases ha : xa = ya
      · have g1 : (xa == ya) = true := by rw [beq_iff_eq]; exact ha
        have HA := Lib.hid ha
        clear ha
        by_cases hp : xp = yp
        · have g2 : (xp.toList == yp.toList) = true := by rw [beq_str, decide_eq_true hp]
          have HP := Lib.hid hp
          clear hp
          by_cases hl : xl = yl
          · have g3 : (xl == yl) = true := by rw [beq_iff_eq]; exact hl
            have HF := Lib.hid (HFIN.out true ⟨fun _ => HX.out.2 ⟨HS.out, HD.out, HA.out, HP.out, hl⟩, fun _ => rfl⟩)
            clear hl
            go_wp2_with fail
            go_ret
            exact ⟨by rw [HF.out]; rfl, HB2.out⟩
          · have g3 : (xl == yl) = false := by rw [beq_eq_false_iff_ne]; exact hl
            have HF := Lib.hid (HFIN.out false ⟨(fun h => nomatch h), fun h => absurd (HX.out.1 h).2.2.2.2 hl⟩)
            clear hl
            go_wp2_with fail
            go_ret
            exact ⟨by rw [HF.out]; rfl, HB2.out⟩
        · have g2 : (xp.toList == yp.toList) = false := by rw [beq_str, decide_eq_false hp]
          have HF := Lib.hid (HFIN.out false ⟨(fun h => nomatch h), fun h => absurd (HX.out.1 h).2.2.2.1 hp⟩)
          clear hp
          go_wp2_with fail
          go_ret
          exact ⟨by rw [HF.out]; rfl, HB2.out⟩
      · have g1 : (xa == ya) = false := by rw [beq_eq_false_iff_ne]; exact ha
        have HF := Lib.hid (HFIN.out false ⟨(fun h => nomatch h), fun h => absurd (HX.out.1 h).2.2.1 ha⟩)
        clear ha
        go_wp2_with fail
        go_ret
        exact ⟨by rw [HF.out]; rfl, HB2.out⟩
    · have hq : ∀ W, (Op.equalIn 10000 27 (.agg #[.int .i64 xw, .int .i64 xn]) (.agg #[.int .i64 yw, .int .i64 yn])).run Tryz.prog W = .ok false W := fun W => by
        rw [HQ.out W]
        by_cases h1 : xw = yw
        · have h2 : xn ≠ yn := fun h => hd ⟨h1, h⟩
          simp [h2]
        · simp [h1]
      have HF := Lib.hid (HFIN.out false ⟨(fun h => nomatch h), fun h => absurd (HX.out.1 h).2.1 hd⟩)
      clear hd
      go_wp2_with fail
      go_ret
      exact ⟨by rw [HF.out]; rfl, HB2.out⟩
  · rw [decide_eq_false hs]
    have HF := Lib.hid (HFIN.out false ⟨(fun h => nomatch h), fun h => absurd (HX.out.1 h).1 hs⟩)
    clear hs
    go_wp2_with fail
    go_ret
    exact ⟨by rw [HF.out]; rfl, HB2.out⟩
end SameOp
end Go.Proofs.YthfbjfocmnikaaaGreatDoor
/- leafsame.Ops, walked. Conditions: few elements. -/
namespace Go.Proofs.YthfbjfocmnikaaaGreatDoor
open Go.RowKit
set_option linter.unusedVariables false
namespace SameOps
def Loop (w : World) (l m : List OpAt) (i : Value) (wr : World) : Prop :=
  ∃ k : Nat, k ≤ l.length ∧ i = .int .i64 k ∧ Hid (Below w.heap.size w wr) ∧ Hid (decide (l.map OpAt.op = m.map OpAt.op) = decide ((l.drop k).map OpAt.op = (m.drop k).map OpAt.op))
theorem cells_at {w : World} {B : Nat} {A : Option Addr} {l : List OpAt} (h : Reads w B 6 A l.length (ocells l)) {k : Nat} (hk : k < l.length) : ∃ ad, A = some ad ∧ ad.block < B ∧ ∀ W : World, (∀ q : Addr, q.block = ad.block → W.cell? q = w.cell? q) → W.cell? (ad.add (k * 6)) = some (.int .i64 l[k].op.dot.who) ∧ W.cell? ⟨(ad.add (k * 6)).block, (ad.add (k * 6)).off + 1, none⟩ = some (.int .i64 l[k].op.dot.n) ∧ W.cell? ⟨(ad.add (k * 6)).block, (ad.add (k * 6)).off + 2, none⟩ = some (.int .i64 l[k].op.what) ∧
      W.cell? ⟨(ad.add (k * 6)).block, (ad.add (k * 6)).off + 3, none⟩ = some (.string l[k].op.place) ∧ W.cell? ⟨(ad.add (k * 6)).block, (ad.add (k * 6)).off + 4, none⟩ = some (.int .i64 l[k].op.letter) ∧ W.cell? ⟨(ad.add (k * 6)).block, (ad.add (k * 6)).off + 5, none⟩ = some (.slice l[k].at_ l[k].op.seen.length l[k].cap) := by
  obtain ⟨ad, e, hb, c0, c1, c2, c3, c4, c5⟩ := h.op hk
  refine ⟨ad, e, by simpa [block_of_add] using hb, fun W hW => ⟨(hW _ (block_of_add _ _)).trans c0, (hW ⟨_, _, none⟩ (block_of_add _ _)).trans c1, (hW ⟨_, _, none⟩ (block_of_add _ _)).trans c2, (hW ⟨_, _, none⟩ (block_of_add _ _)).trans c3, (hW ⟨_, _, none⟩ (block_of_add _ _)).trans c4, (hW ⟨_, _, none⟩ (block_of_add _ _)).trans c5⟩⟩
set_option maxRecDepth 100000 in
set_option maxHeartbeats 4000000 in
theorem any (w : World) (A G : Option Addr) (ca cg : Nat) (l m : List OpAt) (h1 : Reads w w.heap.size 6 A l.length (ocells l)) (h2 : Reads w w.heap.size 6 G m.length (ocells m)) (s1 : ∀ y ∈ l, Reads w w.heap.size 2 y.at_ y.op.seen.length (dcells y.op.seen) ∧ y.op.seen.length ≤ 9223372036854775807)
    (s2 : ∀ y ∈ m, Reads w w.heap.size 2 y.at_ y.op.seen.length (dcells y.op.seen) ∧ y.op.seen.length ≤ 9223372036854775807) (hl : l.length ≤ 9223372036854775807) (hm : m.length ≤ 9223372036854775807) :
    Calls Tryz.prog 39 #[.slice A l.length ca, .slice G m.length cg] w (CheckPost w (.bool (decide (l.map OpAt.op = m.map OpAt.op)))) := by
  have HR := Lib.hid h1
  have HS := Lib.hid h2
  have HSL := Lib.hid s1
  have HSM := Lib.hid s2
  clear h1 h2 s1 s2
  by_cases hlm : l.length = m.length
  · have HLM := Lib.hid hlm
    have e0 : ((l.length : Int) != (m.length : Int)) = false := by simp [hlm]
    have e1 : ((l.length : Int) == (m.length : Int)) = true := by simp [hlm]
    clear hlm
    go_enter Tryz.func39, Tryz.ntmps39
    go_wp2_with fail
    go_loopw [5] (fun i wr => Loop w l m i wr) (fun i _ => l.length - (intOf i).toNat)
    case atStart => exact ⟨0, by omega, rfl, Below.refl _ _, Lib.hid rfl⟩
    case round =>
      obtain ⟨k, hk, rfl, HB, HE⟩ := hrel
      by_cases hkn : k < l.length
      · have hkm : k < m.length := by have := HLM.out; omega
        obtain ⟨ad, rfl, hab, hcl⟩ := cells_at (HR.out.below HB.out) hkn
        obtain ⟨ag, rfl, hag, hcm⟩ := cells_at (HS.out.below HB.out) hkm
        have HCL : Hid (∀ W, Below wr.heap.size wr W → _) := fun W hW => hcl W (fun q hq => hW.cell (by rw [hq]; exact Nat.lt_of_lt_of_le hab HB.out.size))
        have HCM : Hid (∀ W, Below wr.heap.size wr W → _) := fun W hW => hcm W (fun q hq => hW.cell (by rw [hq]; exact Nat.lt_of_lt_of_le hag HB.out.size))
        obtain ⟨c0, c1, c2, c3, c4, c5⟩ := HCL.out wr (Below.refl _ _)
        obtain ⟨g0, g1, g2, g3, g4, g5⟩ := HCM.out wr (Below.refl _ _)
        have k1 : (k : Int) < (l.length : Int) := by omega
        have k2 : (k : Int) < (m.length : Int) := by omega
        have k0 : (0 : Int) ≤ (k : Int) := by omega
        have hdr : ((l.drop k).map OpAt.op = (m.drop k).map OpAt.op) = (l[k].op = m[k].op ∧ (l.drop (k + 1)).map OpAt.op = (m.drop (k + 1)).map OpAt.op) := by
          rw [List.drop_eq_getElem_cons hkn, List.drop_eq_getElem_cons hkm, List.map_cons, List.map_cons, List.cons.injEq]
        have HDR := Lib.hid hdr
        have hx := HSL.out _ (List.getElem_mem hkn)
        have hy := HSM.out _ (List.getElem_mem hkm)
        have HC := Lib.hid (fun W (hW : Below w.heap.size w W) => SameOp.any W l[k].op m[k].op l[k].at_ m[k].at_ l[k].cap m[k].cap ((hx.1.below hW).more hW.size) ((hy.1.below hW).more hW.size) hx.2 hy.2)
        obtain ⟨bb, hbb⟩ : ∃ bb, bb = decide (l[k].op = m[k].op) := ⟨_, rfl⟩
        rw [← hbb] at HC
        have HBB := Lib.hid hbb
        clear hdr hx hy hcl hcm hab hag hbb
        generalize l[k] = x at *
        generalize m[k] = y at *
        obtain ⟨⟨⟨xw, xn⟩, xa, xp, xl, xs⟩, xA, xc⟩ := x
        obtain ⟨⟨⟨yw, yn⟩, ya, yp, yl, ys⟩, yA, yc⟩ := y
        unfold LOp.val at HC
        simp only at HC HDR HBB HCL HCM c0 c1 c2 c3 c4 c5 g0 g1 g2 g3 g4 g5
        go_wp2_with fail
        go_region_held3 (fun w' => (w'.cell? (ad.add (k * 6)) = some (.int .i64 xw) ∧ w'.cell? ⟨(ad.add (k * 6)).block, (ad.add (k * 6)).off + 1, none⟩ = some (.int .i64 xn) ∧ w'.cell? ⟨(ad.add (k * 6)).block, (ad.add (k * 6)).off + 2, none⟩ = some (.int .i64 xa) ∧ w'.cell? ⟨(ad.add (k * 6)).block, (ad.add (k * 6)).off + 3, none⟩ = some (.string xp) ∧ w'.cell? ⟨(ad.add (k * 6)).block, (ad.add (k * 6)).off + 4, none⟩ = some (.int .i64 xl) ∧ w'.cell? ⟨(ad.add (k * 6)).block, (ad.add (k * 6)).off + 5, none⟩ = some (.slice xA xs.length xc) ∧
            w'.cell? (ag.add (k * 6)) = some (.int .i64 yw) ∧ w'.cell? ⟨(ag.add (k * 6)).block, (ag.add (k * 6)).off + 1, none⟩ = some (.int .i64 yn) ∧ w'.cell? ⟨(ag.add (k * 6)).block, (ag.add (k * 6)).off + 2, none⟩ = some (.int .i64 ya) ∧ w'.cell? ⟨(ag.add (k * 6)).block, (ag.add (k * 6)).off + 3, none⟩ = some (.string yp) ∧ w'.cell? ⟨(ag.add (k * 6)).block, (ag.add (k * 6)).off + 4, none⟩ = some (.int .i64 yl) ∧ w'.cell? ⟨(ag.add (k * 6)).block, (ag.add (k * 6)).off + 5, none⟩ = some (.slice yA ys.length yc)))
          (first | go_keep | (refine ⟨?_, ?_, ?_, ?_, ?_, ?_, ?_, ?_, ?_, ?_, ?_, ?_⟩ <;> assumption))
          ((go_at_call 96; refine (HC.out _ (by first | exact HB.out | exact below_drewN HB.out _ | exact HB.out.drew)).mono ?_; rintro e w3 ⟨rfl, hb3⟩
            have hbw : Below wr.heap.size wr w3 := by first | exact hb3 | exact below_of_drewN (n := 1) hb3
            have HB3 : Hid (Below w.heap.size w w3) := HB.out.trans (hbw.mono HB.out.size)
            clear c0 c1 c2 c3 c4 c5 g0 g1 g2 g3 g4 g5
            obtain ⟨c0, c1, c2, c3, c4, c5⟩ := HCL.out _ hbw
            obtain ⟨g0, g1, g2, g3, g4, g5⟩ := HCM.out _ hbw
            clear hb3 hbw))
        cases bb with
        | true =>
          have HEN : Hid (decide (l.map OpAt.op = m.map OpAt.op) = decide ((l.drop (k + 1)).map OpAt.op = (m.drop (k + 1)).map OpAt.op)) := by
            show _ = _
            rw [HE.out]
            rw [Bool.eq_iff_iff, decide_eq_true_iff, decide_eq_true_iff, HDR.out]
            exact ⟨fun h => h.2, fun h => ⟨of_decide_eq_true HBB.out.symm, h⟩⟩
          clear HDR HE HBB
          go_wp2_with fail
          go_roundw
          case rel => exact ⟨k + 1, by omega, by go_num, HB3, HEN⟩
          case measure => simp [intOf]; omega
        | false =>
          have HEN : Hid (decide (l.map OpAt.op = m.map OpAt.op) = false) := by
            show _ = _
            rw [HE.out, decide_eq_false_iff_not, HDR.out]
            exact fun h => of_decide_eq_false HBB.out.symm h.1
          clear HDR HE HBB
          go_wp2_with fail
          go_ret
          exact ⟨by rw [HEN.out]; rfl, HB3.out⟩
      · have k1 : ¬ (k : Int) < (l.length : Int) := by omega
        have HEN : Hid (decide (l.map OpAt.op = m.map OpAt.op) = true) := by
          show _ = _
          rw [HE.out, List.drop_of_length_le (by omega), List.drop_of_length_le (by have := HLM.out; omega)]
          rfl
        go_wp2_with fail
        go_ret
        exact ⟨by rw [HEN.out]; rfl, HB.out⟩
  · have e0 : ((l.length : Int) != (m.length : Int)) = true := by simp; omega
    have HEN : Hid (decide (l.map OpAt.op = m.map OpAt.op) = false) := by
      show _ = _
      rw [decide_eq_false_iff_not]
      intro h
      have := congrArg List.length h
      simp at this
      exact hlm this
    clear hlm
    go_enter Tryz.func39, Tryz.ntmps39
    go_wp2_with fail
    go_ret
    exact ⟨by rw [HEN.out]; rfl, Below.refl _ _⟩
end SameOps
end Go.Proofs.YthfbjfocmnikaaaGreatDoor
/- The two documents are the same, part by part: by the contracts. Conditions: the documents are right. -/
namespace Go.Proofs.YthfbjfocmnikaaaGreatDoor
open Go.RowKit
set_option linter.unusedVariables false
namespace Twin
theorem rcells {w w3 : World} {B b1 b2 : Nat} {s : LDoc} {S1 S2 : List Nat} {D1 : DLay} {D2 : RLay} (h : Twin w B b1 b2 s s w3 S1 S2 D1 D2) (W : World) (hb : Below w3.heap.size w3 W) : W.cell? ⟨b2, 0, none⟩ = some (.slice D2.a1 s.book.length D2.c1) ∧ W.cell? ⟨b2, 1, none⟩ = some (.slice D2.a2 s.marks.length D2.c2) ∧ W.cell? ⟨b2, 2, none⟩ = some (.slice D2.a3 s.known.length D2.c3) ∧ W.cell? ⟨b2, 3, none⟩ = some (.slice D2.a4 s.ops.length D2.c4) := by
  have h1 := (h.two.below hb).blk
  exact ⟨by rw [h1.cell]; rfl, by rw [h1.cell]; rfl, by rw [h1.cell]; rfl, by rw [h1.cell]; rfl⟩
variable {w w3 : World} {B b1 b2 : Nat} {s : LDoc} {S1 S2 : List Nat} {D1 : DLay} {D2 : RLay} (h : Twin w B b1 b2 s s w3 S1 S2 D1 D2) (ok : s.Ok)
include h ok
theorem books (W : World) (hb : Below w3.heap.size w3 W) : Calls Tryz.prog 23 #[.pointer (some ⟨b1, 0, none⟩)] W (fun e w' => ∃ V c, e = .returned (.slice V s.book.length c) ∧ Below w3.heap.size w3 w' ∧
    ∀ W2, Below w'.heap.size w' W2 → Calls Tryz.prog 22 #[.slice V s.book.length c, .slice D2.a1 s.book.length D2.c1] W2 (fun e w4 => e = .returned (.bool true) ∧ Below w3.heap.size w3 w4)) := by
  refine (book_doc W _ _ _ _ _ (h.one.below hb) ok).mono ?_
  rintro e w' ⟨V, c, rfl, hO, hb2⟩
  have hb3 := hb.trans (hb2.mono hb.size)
  refine ⟨V, c, rfl, hb3, fun W2 hW2 => ?_⟩
  have hb4 := hb3.trans (hW2.mono hb3.size)
  exact (leafs_same W2 V D2.a1 c D2.c1 s.book (hO.below hW2).reads (h.two.below hb4).book.row (by have := ok.book.few; omega)).mono fun e w4 hh => ⟨hh.1, hb4.trans (hh.2.mono hb4.size)⟩
theorem markss (W : World) (hb : Below w3.heap.size w3 W) : Calls Tryz.prog 25 #[.pointer (some ⟨b1, 0, none⟩)] W (fun e w' => ∃ V c, e = .returned (.slice V s.marks.length c) ∧ Below w3.heap.size w3 w' ∧
    ∀ W2, Below w'.heap.size w' W2 → Calls Tryz.prog 24 #[.slice V s.marks.length c, .slice D2.a2 s.marks.length D2.c2] W2 (fun e w4 => e = .returned (.bool true) ∧ Below w3.heap.size w3 w4)) := by
  refine (marks_doc W _ _ _ _ _ (h.one.below hb) ok).mono ?_
  rintro e w' ⟨V, c, rfl, hO, hb2⟩
  have hb3 := hb.trans (hb2.mono hb.size)
  refine ⟨V, c, rfl, hb3, fun W2 hW2 => ?_⟩
  have hb4 := hb3.trans (hW2.mono hb3.size)
  exact (marks_same W2 V D2.a2 c D2.c2 s.marks (hO.below hW2).reads (h.two.below hb4).marks.row (by have := ok.marks.few; omega)).mono fun e w4 hh => ⟨hh.1, hb4.trans (hh.2.mono hb4.size)⟩
theorem knowns (W : World) (hb : Below w3.heap.size w3 W) : Calls Tryz.prog 27 #[.pointer (some ⟨b1, 0, none⟩)] W (fun e w' => ∃ V c, e = .returned (.slice V s.known.length c) ∧ Below w3.heap.size w3 w' ∧
    ∀ W2, Below w'.heap.size w' W2 → Calls Tryz.prog 26 #[.slice V s.known.length c, .slice D2.a3 s.known.length D2.c3] W2 (fun e w4 => e = .returned (.bool true) ∧ Below w3.heap.size w3 w4)) := by
  refine (known_doc W _ _ _ _ _ (h.one.below hb) ok).mono ?_
  rintro e w' ⟨V, c, rfl, hO, hb2⟩
  have hb3 := hb.trans (hb2.mono hb.size)
  refine ⟨V, c, rfl, hb3, fun W2 hW2 => ?_⟩
  have hb4 := hb3.trans (hW2.mono hb3.size)
  exact (ints_same W2 V D2.a3 c D2.c3 s.known (hO.below hW2).reads (h.two.below hb4).known.reads (by have := (vec_ok ok.known).1; omega)).mono fun e w4 hh => ⟨hh.1, hb4.trans (hh.2.mono hb4.size)⟩
theorem texts (W : World) (hb : Below w3.heap.size w3 W) : Calls Tryz.prog 14 #[.pointer (some ⟨b1, 0, none⟩)] W (fun e w' => e = .returned (.string (textOf s.book)) ∧ Below w3.heap.size w3 w') :=
  (text_doc W _ _ _ _ _ (h.one.below hb) ok).mono fun e w' hh => ⟨hh.1, hb.trans (hh.2.mono hb.size)⟩
end Twin
end Go.Proofs.YthfbjfocmnikaaaGreatDoor

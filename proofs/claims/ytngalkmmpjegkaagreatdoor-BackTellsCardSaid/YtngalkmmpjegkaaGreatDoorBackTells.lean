/- 16 texts in one: each says ahead of itself what is proved, and its conditions. -/
import Derived.Below
import Derived.ChangeSame
import Derived.ChangeVars
import Derived.Deep.CutBlock
import Derived.Deep.DeepCutAuto
import Derived.Deep.RegionHeld3
import Derived.JoinedOf
import Derived.LaidEql
import Derived.LaidHandle
import Derived.LaidLaws
import Derived.ProofKit
import Derived.RowKit
import Derived.RowKitTokens
import Derived.SevenTiedAt
import Derived.SizedLaws
import Derived.Stop.Asserts
import Derived.Test.YtngalkmmpjegkaaGreatDoorCards
import Derived.Test.YtngalkmmpjegkaaGreatDoorRows
import Derived.Test.YtngalkmmpjegkaaGreatDoorTie
import Derived.WalkKit
import Derived.Test.YtngalkmmpjegkaaGreatDoorBackLaw
import Derived.Test.YtngalkmmpjegkaaGreatDoorBackUndo2
import Derived.Test.YtngalkmmpjegkaaGreatDoorCursorLaw
import Derived.Test.YtngalkmmpjegkaaGreatDoorDocKnown
import Derived.Test.YtngalkmmpjegkaaGreatDoorDocOps
import Derived.Test.YtngalkmmpjegkaaGreatDoorDot
import Derived.Test.YtngalkmmpjegkaaGreatDoorEditDo
import Derived.Test.YtngalkmmpjegkaaGreatDoorPlay
import Derived.Test.YtngalkmmpjegkaaGreatDoorRefPlace
import Derived.Test.YtngalkmmpjegkaaGreatDoorRefText
import Derived.Test.YtngalkmmpjegkaaGreatDoorRefUndo3
import Derived.Test.YtngalkmmpjegkaaGreatDoorRise
import Derived.Test.YtngalkmmpjegkaaGreatDoorSame0
import Derived.Test.YtngalkmmpjegkaaGreatDoorShelfCmp
/- leafsame.Dots, walked. Conditions: few elements. -/
namespace Go.Proofs.YtngalkmmpjegkaaGreatDoor
open Go.RowKit
set_option linter.unusedVariables false
namespace SameDots
instance dec : DecidableEq LDot := fun a b => by
  cases a; cases b
  simp only [LDot.mk.injEq]
  exact inferInstance
set_option maxRecDepth 100000 in
theorem eq_one (W : World) (x0 y0 : Int) (x1 y1 : Int) : (Op.equalIn 10000 27 (.agg #[.int .i64 x0, .int .i64 x1]) (.agg #[.int .i64 y0, .int .i64 y1])).run Tryz.prog W = .ok (x0 == y0 && (x1 == y1)) W := by
  have ui := Tryz.underlying3
  have hS : Tryz.prog.underlying 27 = some (.struct (Tryz.prog.fieldsOf 27)) := by kernel_rfl
  have hp : Tryz.prog.stoodInHeld 27 = false := by kernel_rfl
  rw [show (10000 : Nat) = 9999 + 1 from rfl, run_equalIn_agg W 9999 27 _ _ hS hp]
  simp only [Program.fieldsOf, Tryz.underlying27]
  go_simp
  by_cases h0 : x0 = y0 <;> by_cases h1 : x1 = y1 <;> simp [h0, h1]
theorem same_one {x0 y0 : Int} {x1 y1 : Int} : (x0 == y0 && (x1 == y1)) = decide ((⟨x0, x1⟩ : LDot) = ⟨y0, y1⟩) := by
  rw [Bool.eq_iff_iff]
  simp only [Bool.and_eq_true, beq_iff_eq, decide_eq_true_eq, LDot.mk.injEq]
def Loop (w : World) (l m : List LDot) (i : Value) (wr : World) : Prop :=
  ∃ k : Nat, k ≤ l.length ∧ i = .int .i64 k ∧ Hid (Below w.heap.size w wr) ∧ Hid (decide (l = m) = decide (l.drop k = m.drop k))
set_option maxRecDepth 100000 in
set_option maxHeartbeats 1000000 in
theorem any_big (w : World) (A G : Option Addr) (ca cg : Nat) (l m : List LDot) (h1 : Reads w w.heap.size 2 A l.length (dcells l)) (h2 : Reads w w.heap.size 2 G m.length (dcells m)) (hl : l.length ≤ 9223372036854775807) (hm : m.length ≤ 9223372036854775807) :
    Calls Tryz.prog 67 #[.slice A l.length ca, .slice G m.length cg] w (SamePost w (decide (l = m))) := by
  have HR := Lib.hid h1
  have HS := Lib.hid h2
  clear h1 h2
  by_cases hlm : l.length = m.length
  · have HLM := Lib.hid hlm
    have e0 : ((l.length : Int) != (m.length : Int)) = false := by simp [hlm]
    have e1 : ((l.length : Int) == (m.length : Int)) = true := by simp [hlm]
    clear hlm
    go_enter Tryz.func67, Tryz.ntmps67
    go_wp2_with fail
    go_loopw [5] (fun i wr => Loop w l m i wr) (fun i _ => l.length - (intOf i).toNat)
    case atStart => exact ⟨0, by omega, rfl, Below.refl _ _, Lib.hid rfl⟩
    case round =>
      obtain ⟨k, hk, rfl, HB, HE⟩ := hrel
      by_cases hkn : k < l.length
      · have hkm : k < m.length := by have := HLM.out; omega
        obtain ⟨ad, hA, _, c0, c1⟩ := (HR.out.below HB.out).dot hkn
        obtain ⟨ag, hG, _, g0, g1⟩ := (HS.out.below HB.out).dot hkm
        have k1 : (k : Int) < (l.length : Int) := by omega
        have k2 : (k : Int) < (m.length : Int) := by omega
        have k0 : (0 : Int) ≤ (k : Int) := by omega
        subst hA hG
        have hdr : (l.drop k = m.drop k) = (l[k] = m[k] ∧ l.drop (k + 1) = m.drop (k + 1)) := by
          rw [List.drop_eq_getElem_cons hkn, List.drop_eq_getElem_cons hkm, List.cons.injEq]
        have HDR := Lib.hid hdr
        clear hdr
        generalize l[k] = x at *
        generalize m[k] = y at *
        obtain ⟨x0, x1⟩ := x
        obtain ⟨y0, y1⟩ := y
        simp only at c0 c1 g0 g1
        by_cases hxy : (⟨x0, x1⟩ : LDot) = ⟨y0, y1⟩
        · have HN : Hid (decide (l = m) = decide (l.drop (k + 1) = m.drop (k + 1))) := by
            show _ = _
            rw [HE.out]; congr 1; rw [HDR.out]; simp [hxy]
          have hq : ∀ W, (Op.equalIn 10000 27 (.agg #[.int .i64 x0, .int .i64 x1]) (.agg #[.int .i64 y0, .int .i64 y1])).run Tryz.prog W = .ok true W := fun W => by rw [eq_one, same_one, decide_eq_true hxy]
          clear HDR HE hxy
          go_wp2_with fail
          go_quiet (fail)
          go_wp2_with fail
          go_roundw
          case rel => exact ⟨k + 1, by omega, by go_num, below_drewN HB.out _, HN⟩
          case measure => simp [intOf]; omega
        · have HN : Hid (decide (l = m) = false) := by
            show _ = _
            rw [HE.out, decide_eq_false_iff_not, HDR.out]; exact fun h => hxy h.1
          have hq : ∀ W, (Op.equalIn 10000 27 (.agg #[.int .i64 x0, .int .i64 x1]) (.agg #[.int .i64 y0, .int .i64 y1])).run Tryz.prog W = .ok false W := fun W => by rw [eq_one, same_one, decide_eq_false hxy]
          clear HDR HE hxy
          go_wp2_with fail
          go_quiet (fail)
          go_wp2_with fail
          go_ret
          exact ⟨by rw [HN.out]; rfl, below_drewN HB.out _⟩
      · have HN : Hid (decide (l = m) = true) := by
          show _ = _
          rw [HE.out, List.drop_of_length_le (by omega), List.drop_of_length_le (by have := HLM.out; omega)]; rfl
        have hd : decide ((k : Int) < (l.length : Int)) = false := by simp; omega
        go_wp2_with fail
        go_ret
        exact ⟨by rw [HN.out]; rfl, HB.out⟩
  · have HF : Hid (decide (l = m) = false) := decide_eq_false (fun h => hlm (by rw [h]))
    have e0 : ((l.length : Int) != (m.length : Int)) = true := by simp; omega
    have e1 : ((l.length : Int) == (m.length : Int)) = false := by simp; omega
    clear hlm
    go_enter Tryz.func67, Tryz.ntmps67
    go_wp2_with fail
    go_ret
    exact ⟨by rw [HF.out]; rfl, Below.refl _ _⟩
theorem any (w : World) (A G : Option Addr) (ca cg : Nat) (l m : List LDot) (h1 : Reads w w.heap.size 2 A l.length (dcells l)) (h2 : Reads w w.heap.size 2 G m.length (dcells m)) (hl : l.length ≤ 1000000) (hm : m.length ≤ 1000000) :
    Calls Tryz.prog 67 #[.slice A l.length ca, .slice G m.length cg] w (SamePost w (decide (l = m))) := any_big w A G ca cg l m h1 h2 (by omega) (by omega)
end SameDots
end Go.Proofs.YtngalkmmpjegkaaGreatDoor
/- leafsame.Op, leafsame.Ops, walked. Conditions: few elements. -/
namespace Go.Proofs.YtngalkmmpjegkaaGreatDoor
open Go.RowKit
set_option linter.unusedVariables false
namespace SameOp
instance dec : DecidableEq LOp := fun a b => by
  obtain ⟨⟨a0, a1⟩, a2, a3, a4, a5⟩ := a
  obtain ⟨⟨b0, b1⟩, b2, b3, b4, b5⟩ := b
  simp only [LOp.mk.injEq, LDot.mk.injEq]
  exact inferInstance
theorem beq_str {x y : ByteArray} : (x.toList == y.toList) = decide (x = y) := by
  rw [Bool.eq_iff_iff, beq_iff_eq, decide_eq_true_iff, same_toList]
set_option maxRecDepth 100000 in
set_option maxHeartbeats 2000000 in
theorem any (w : World) (x y : LOp) (A G : Option Addr) (ca cg : Nat) (h1 : Reads w w.heap.size 2 A x.seen.length (dcells x.seen)) (h2 : Reads w w.heap.size 2 G y.seen.length (dcells y.seen)) (hl : x.seen.length ≤ 9223372036854775807) (hm : y.seen.length ≤ 9223372036854775807) :
    Calls Tryz.prog 29 #[x.val A ca, y.val G cg] w (SamePost w (decide (x = y))) := by
  obtain ⟨W0, hW0⟩ : ∃ W0, W0 = (w.alloc (.cells (x.cells A ca) 30)).alloc (.cells (y.cells G cg) 30) := ⟨_, rfl⟩
  have hb0 : Below w.heap.size w W0 := by rw [hW0]; exact ((Below.refl _ _).alloc (Nat.le_refl _) _).alloc (by simp) _
  have HB0 := Lib.hid hb0
  have hs0 : (w.alloc (.cells (x.cells A ca) 30)).heap.size = w.heap.size + 1 := by simp
  have bx : Blk W0 w.heap.size 30 (x.cells A ca) := by rw [hW0]; exact (Blk.new w _ _).alloc _
  have by_ : Blk W0 (w.heap.size + 1) 30 (y.cells G cg) := by rw [hW0]; unfold Blk; rw [← hs0]; exact heap_alloc_new _ _
  have HC := Lib.hid (SameDots.any_big W0 A G ca cg x.seen y.seen ((h1.below hb0).more hb0.size) ((h2.below hb0).more hb0.size) hl hm)
  have HCX : Hid (∀ W, Below W0.heap.size W0 W → W.cell? ⟨w.heap.size, 0, none⟩ = some (.int .i64 x.dot.who) ∧ W.cell? ⟨w.heap.size, 1, none⟩ = some (.int .i64 x.dot.n) ∧ W.cell? ⟨w.heap.size, 2, none⟩ = some (.int .i64 x.what) ∧ W.cell? ⟨w.heap.size, 3, none⟩ = some (.string x.place) ∧ W.cell? ⟨w.heap.size, 4, none⟩ = some (.int .i64 x.letter) ∧ W.cell? ⟨w.heap.size, 5, none⟩ = some (.slice A x.seen.length ca)) := fun W hb => by
    have h := bx.below hb bx.lt
    exact ⟨h.cell 0, h.cell 1, h.cell 2, h.cell 3, h.cell 4, h.cell 5⟩
  have HCY : Hid (∀ W, Below W0.heap.size W0 W → W.cell? ⟨w.heap.size + 1, 0, none⟩ = some (.int .i64 y.dot.who) ∧ W.cell? ⟨w.heap.size + 1, 1, none⟩ = some (.int .i64 y.dot.n) ∧ W.cell? ⟨w.heap.size + 1, 2, none⟩ = some (.int .i64 y.what) ∧ W.cell? ⟨w.heap.size + 1, 3, none⟩ = some (.string y.place) ∧ W.cell? ⟨w.heap.size + 1, 4, none⟩ = some (.int .i64 y.letter) ∧ W.cell? ⟨w.heap.size + 1, 5, none⟩ = some (.slice G y.seen.length cg)) := fun W hb => by
    have h := by_.below hb by_.lt
    exact ⟨h.cell 0, h.cell 1, h.cell 2, h.cell 3, h.cell 4, h.cell 5⟩
  have HQ := Lib.hid (fun W => SameDots.eq_one W x.dot.who y.dot.who x.dot.n y.dot.n)
  have HX : Hid (x = y ↔ x.seen = y.seen ∧ (x.dot.who = y.dot.who ∧ x.dot.n = y.dot.n) ∧ x.what = y.what ∧ x.place = y.place ∧ x.letter = y.letter) := by
    obtain ⟨⟨a, b⟩, c, d, e, f⟩ := x
    obtain ⟨⟨a', b'⟩, c', d', e', f'⟩ := y
    show _ ↔ _
    simp only [LOp.mk.injEq, LDot.mk.injEq]
    constructor
    · rintro ⟨⟨h1, h2⟩, h3, h4, h5, h6⟩; exact ⟨h6, ⟨h1, h2⟩, h3, h4, h5⟩
    · rintro ⟨h6, ⟨h1, h2⟩, h3, h4, h5⟩; exact ⟨⟨h1, h2⟩, h3, h4, h5, h6⟩
  have hfin : ∀ b : Bool, (b = true ↔ x = y) → decide (x = y) = b := fun b h => by
    rw [Bool.eq_iff_iff, decide_eq_true_iff]; exact h.symm
  have HFIN := Lib.hid hfin
  clear h1 h2 bx by_ hb0 hfin
  obtain ⟨⟨xw, xn⟩, xa, xp, xl, xs⟩ := x
  obtain ⟨⟨yw, yn⟩, ya, yp, yl, ys⟩ := y
  unfold LOp.val
  unfold LOp.cells at hW0
  simp only at hW0 HC HCX HCY HQ HX HFIN hl hm ⊢
  have HBR : Hid (Below W0.heap.size W0 W0) := Below.refl _ _
  obtain ⟨c0, c1, c2, c3, c4, c5⟩ := HCX.out _ HBR.out
  obtain ⟨d0, d1, d2, d3, d4, d5⟩ := HCY.out _ HBR.out
  go_enter Tryz.func29, Tryz.ntmps29
  go_wp2_with fail
  rw [← hW0]
  clear hW0
  refine HC.out.mono ?_
  rintro e w2 ⟨rfl, hb⟩
  have HB2 := Lib.hid (HB0.out.trans (hb.mono HB0.out.size))
  clear c0 c1 c2 c3 c4 c5 d0 d1 d2 d3 d4 d5
  obtain ⟨c0, c1, c2, c3, c4, c5⟩ := HCX.out _ hb
  obtain ⟨d0, d1, d2, d3, d4, d5⟩ := HCY.out _ hb
  clear hb HC HCX HCY
  by_cases hs : xs = ys
  · rw [decide_eq_true hs]
    have HS := Lib.hid hs
    clear hs
    by_cases hd : xw = yw ∧ xn = yn
    · have hq : ∀ W, (Op.equalIn 10000 27 (.agg #[.int .i64 xw, .int .i64 xn]) (.agg #[.int .i64 yw, .int .i64 yn])).run Tryz.prog W = .ok true W := fun W => by rw [HQ.out W]; simp [hd.1, hd.2]
      have HD := Lib.hid hd
      clear hd
      by_cases ha : xa = ya
      · have g1 : (xa == ya) = true := by rw [beq_iff_eq]; exact ha
        have HA := Lib.hid ha
        clear ha
        by_cases hp : xp = yp
        · have g2 : (xp.toList == yp.toList) = true := by rw [beq_str, decide_eq_true hp]
          have HP := Lib.hid hp
          clear hp
          by_cases hl : xl = yl
          · have g3 : (xl == yl) = true := by rw [beq_iff_eq]; exact hl
            have HF := Lib.hid (HFIN.out true ⟨fun _ => HX.out.2 ⟨HS.out, HD.out, HA.out, HP.out, hl⟩, fun _ => rfl⟩)
            clear hl
            go_wp2_with fail
            go_ret
            exact ⟨by rw [HF.out]; rfl, HB2.out⟩
          · have g3 : (xl == yl) = false := by rw [beq_eq_false_iff_ne]; exact hl
            have HF := Lib.hid (HFIN.out false ⟨(fun h => nomatch h), fun h => absurd (HX.out.1 h).2.2.2.2 hl⟩)
            clear hl
            go_wp2_with fail
            go_ret
            exact ⟨by rw [HF.out]; rfl, HB2.out⟩
        · have g2 : (xp.toList == yp.toList) = false := by rw [beq_str, decide_eq_false hp]
          have HF := Lib.hid (HFIN.out false ⟨(fun h => nomatch h), fun h => absurd (HX.out.1 h).2.2.2.1 hp⟩)
          clear hp
          go_wp2_with fail
          go_ret
          exact ⟨by rw [HF.out]; rfl, HB2.out⟩
      · have g1 : (xa == ya) = false := by rw [beq_eq_false_iff_ne]; exact ha
        have HF := Lib.hid (HFIN.out false ⟨(fun h => nomatch h), fun h => absurd (HX.out.1 h).2.2.1 ha⟩)
        clear ha
        go_wp2_with fail
        go_ret
        exact ⟨by rw [HF.out]; rfl, HB2.out⟩
    · have hq : ∀ W, (Op.equalIn 10000 27 (.agg #[.int .i64 xw, .int .i64 xn]) (.agg #[.int .i64 yw, .int .i64 yn])).run Tryz.prog W = .ok false W := fun W => by
        rw [HQ.out W]
        by_cases h1 : xw = yw
        · have h2 : xn ≠ yn := fun h => hd ⟨h1, h⟩
          simp [h2]
        · simp [h1]
      have HF := Lib.hid (HFIN.out false ⟨(fun h => nomatch h), fun h => absurd (HX.out.1 h).2.1 hd⟩)
      clear hd
      go_wp2_with fail
      go_ret
      exact ⟨by rw [HF.out]; rfl, HB2.out⟩
  · rw [decide_eq_false hs]
    have HF := Lib.hid (HFIN.out false ⟨(fun h => nomatch h), fun h => absurd (HX.out.1 h).1 hs⟩)
    clear hs
    go_wp2_with fail
    go_ret
    exact ⟨by rw [HF.out]; rfl, HB2.out⟩
end SameOp
end Go.Proofs.YtngalkmmpjegkaaGreatDoor
/- leafsame.Ops, walked. Conditions: few elements. -/
namespace Go.Proofs.YtngalkmmpjegkaaGreatDoor
open Go.RowKit
set_option linter.unusedVariables false
namespace SameOps
def Loop (w : World) (l m : List OpAt) (i : Value) (wr : World) : Prop :=
  ∃ k : Nat, k ≤ l.length ∧ i = .int .i64 k ∧ Hid (Below w.heap.size w wr) ∧ Hid (decide (l.map OpAt.op = m.map OpAt.op) = decide ((l.drop k).map OpAt.op = (m.drop k).map OpAt.op))
theorem cells_at {w : World} {B : Nat} {A : Option Addr} {l : List OpAt} (h : Reads w B 6 A l.length (ocells l)) {k : Nat} (hk : k < l.length) : ∃ ad, A = some ad ∧ ad.block < B ∧ ∀ W : World, (∀ q : Addr, q.block = ad.block → W.cell? q = w.cell? q) → W.cell? (ad.add (k * 6)) = some (.int .i64 l[k].op.dot.who) ∧ W.cell? ⟨(ad.add (k * 6)).block, (ad.add (k * 6)).off + 1, none⟩ = some (.int .i64 l[k].op.dot.n) ∧ W.cell? ⟨(ad.add (k * 6)).block, (ad.add (k * 6)).off + 2, none⟩ = some (.int .i64 l[k].op.what) ∧
      W.cell? ⟨(ad.add (k * 6)).block, (ad.add (k * 6)).off + 3, none⟩ = some (.string l[k].op.place) ∧ W.cell? ⟨(ad.add (k * 6)).block, (ad.add (k * 6)).off + 4, none⟩ = some (.int .i64 l[k].op.letter) ∧ W.cell? ⟨(ad.add (k * 6)).block, (ad.add (k * 6)).off + 5, none⟩ = some (.slice l[k].at_ l[k].op.seen.length l[k].cap) := by
  obtain ⟨ad, e, hb, c0, c1, c2, c3, c4, c5⟩ := h.op hk
  refine ⟨ad, e, by simpa [block_of_add] using hb, fun W hW => ⟨(hW _ (block_of_add _ _)).trans c0, (hW ⟨_, _, none⟩ (block_of_add _ _)).trans c1, (hW ⟨_, _, none⟩ (block_of_add _ _)).trans c2, (hW ⟨_, _, none⟩ (block_of_add _ _)).trans c3, (hW ⟨_, _, none⟩ (block_of_add _ _)).trans c4, (hW ⟨_, _, none⟩ (block_of_add _ _)).trans c5⟩⟩
set_option maxRecDepth 100000 in
set_option maxHeartbeats 4000000 in
theorem any (w : World) (A G : Option Addr) (ca cg : Nat) (l m : List OpAt) (h1 : Reads w w.heap.size 6 A l.length (ocells l)) (h2 : Reads w w.heap.size 6 G m.length (ocells m)) (s1 : ∀ y ∈ l, Reads w w.heap.size 2 y.at_ y.op.seen.length (dcells y.op.seen) ∧ y.op.seen.length ≤ 9223372036854775807)
    (s2 : ∀ y ∈ m, Reads w w.heap.size 2 y.at_ y.op.seen.length (dcells y.op.seen) ∧ y.op.seen.length ≤ 9223372036854775807) (hl : l.length ≤ 9223372036854775807) (hm : m.length ≤ 9223372036854775807) :
    Calls Tryz.prog 32 #[.slice A l.length ca, .slice G m.length cg] w (CheckPost w (.bool (decide (l.map OpAt.op = m.map OpAt.op)))) := by
  have HR := Lib.hid h1
  have HS := Lib.hid h2
  have HSL := Lib.hid s1
  have HSM := Lib.hid s2
  clear h1 h2 s1 s2
  by_cases hlm : l.length = m.length
  · have HLM := Lib.hid hlm
    have e0 : ((l.length : Int) != (m.length : Int)) = false := by simp [hlm]
    have e1 : ((l.length : Int) == (m.length : Int)) = true := by simp [hlm]
    clear hlm
    go_enter Tryz.func32, Tryz.ntmps32
    go_wp2_with fail
    go_loopw [5] (fun i wr => Loop w l m i wr) (fun i _ => l.length - (intOf i).toNat)
    case atStart => exact ⟨0, by omega, rfl, Below.refl _ _, Lib.hid rfl⟩
    case round =>
      obtain ⟨k, hk, rfl, HB, HE⟩ := hrel
      by_cases hkn : k < l.length
      · have hkm : k < m.length := by have := HLM.out; omega
        obtain ⟨ad, rfl, hab, hcl⟩ := cells_at (HR.out.below HB.out) hkn
        obtain ⟨ag, rfl, hag, hcm⟩ := cells_at (HS.out.below HB.out) hkm
        have HCL : Hid (∀ W, Below wr.heap.size wr W → _) := fun W hW => hcl W (fun q hq => hW.cell (by rw [hq]; exact Nat.lt_of_lt_of_le hab HB.out.size))
        have HCM : Hid (∀ W, Below wr.heap.size wr W → _) := fun W hW => hcm W (fun q hq => hW.cell (by rw [hq]; exact Nat.lt_of_lt_of_le hag HB.out.size))
        obtain ⟨c0, c1, c2, c3, c4, c5⟩ := HCL.out wr (Below.refl _ _)
        obtain ⟨g0, g1, g2, g3, g4, g5⟩ := HCM.out wr (Below.refl _ _)
        have k1 : (k : Int) < (l.length : Int) := by omega
        have k2 : (k : Int) < (m.length : Int) := by omega
        have k0 : (0 : Int) ≤ (k : Int) := by omega
        have hdr : ((l.drop k).map OpAt.op = (m.drop k).map OpAt.op) = (l[k].op = m[k].op ∧ (l.drop (k + 1)).map OpAt.op = (m.drop (k + 1)).map OpAt.op) := by
          rw [List.drop_eq_getElem_cons hkn, List.drop_eq_getElem_cons hkm, List.map_cons, List.map_cons, List.cons.injEq]
        have HDR := Lib.hid hdr
        have hx := HSL.out _ (List.getElem_mem hkn)
        have hy := HSM.out _ (List.getElem_mem hkm)
        have HC := Lib.hid (fun W (hW : Below w.heap.size w W) => SameOp.any W l[k].op m[k].op l[k].at_ m[k].at_ l[k].cap m[k].cap ((hx.1.below hW).more hW.size) ((hy.1.below hW).more hW.size) hx.2 hy.2)
        obtain ⟨bb, hbb⟩ : ∃ bb, bb = decide (l[k].op = m[k].op) := ⟨_, rfl⟩
        rw [← hbb] at HC
        have HBB := Lib.hid hbb
        clear hdr hx hy hcl hcm hab hag hbb
        generalize l[k] = x at *
        generalize m[k] = y at *
        obtain ⟨⟨⟨xw, xn⟩, xa, xp, xl, xs⟩, xA, xc⟩ := x
        obtain ⟨⟨⟨yw, yn⟩, ya, yp, yl, ys⟩, yA, yc⟩ := y
        unfold LOp.val at HC
        simp only at HC HDR HBB HCL HCM c0 c1 c2 c3 c4 c5 g0 g1 g2 g3 g4 g5
        go_wp2_with fail
        go_region_held3 (fun w' => (w'.cell? (ad.add (k * 6)) = some (.int .i64 xw) ∧ w'.cell? ⟨(ad.add (k * 6)).block, (ad.add (k * 6)).off + 1, none⟩ = some (.int .i64 xn) ∧ w'.cell? ⟨(ad.add (k * 6)).block, (ad.add (k * 6)).off + 2, none⟩ = some (.int .i64 xa) ∧ w'.cell? ⟨(ad.add (k * 6)).block, (ad.add (k * 6)).off + 3, none⟩ = some (.string xp) ∧ w'.cell? ⟨(ad.add (k * 6)).block, (ad.add (k * 6)).off + 4, none⟩ = some (.int .i64 xl) ∧ w'.cell? ⟨(ad.add (k * 6)).block, (ad.add (k * 6)).off + 5, none⟩ = some (.slice xA xs.length xc) ∧
            w'.cell? (ag.add (k * 6)) = some (.int .i64 yw) ∧ w'.cell? ⟨(ag.add (k * 6)).block, (ag.add (k * 6)).off + 1, none⟩ = some (.int .i64 yn) ∧ w'.cell? ⟨(ag.add (k * 6)).block, (ag.add (k * 6)).off + 2, none⟩ = some (.int .i64 ya) ∧ w'.cell? ⟨(ag.add (k * 6)).block, (ag.add (k * 6)).off + 3, none⟩ = some (.string yp) ∧ w'.cell? ⟨(ag.add (k * 6)).block, (ag.add (k * 6)).off + 4, none⟩ = some (.int .i64 yl) ∧ w'.cell? ⟨(ag.add (k * 6)).block, (ag.add (k * 6)).off + 5, none⟩ = some (.slice yA ys.length yc)))
          (first | go_keep | (refine ⟨?_, ?_, ?_, ?_, ?_, ?_, ?_, ?_, ?_, ?_, ?_, ?_⟩ <;> assumption))
          ((go_at_call 29; refine (HC.out _ (by first | exact HB.out | exact below_drewN HB.out _ | exact HB.out.drew)).mono ?_; rintro e w3 ⟨rfl, hb3⟩
            have hbw : Below wr.heap.size wr w3 := by first | exact hb3 | exact below_of_drewN (n := 1) hb3
            have HB3 : Hid (Below w.heap.size w w3) := HB.out.trans (hbw.mono HB.out.size)
            clear c0 c1 c2 c3 c4 c5 g0 g1 g2 g3 g4 g5
            obtain ⟨c0, c1, c2, c3, c4, c5⟩ := HCL.out _ hbw
            obtain ⟨g0, g1, g2, g3, g4, g5⟩ := HCM.out _ hbw
            clear hb3 hbw))
        cases bb with
        | true =>
          have HEN : Hid (decide (l.map OpAt.op = m.map OpAt.op) = decide ((l.drop (k + 1)).map OpAt.op = (m.drop (k + 1)).map OpAt.op)) := by
            show _ = _
            rw [HE.out]
            rw [Bool.eq_iff_iff, decide_eq_true_iff, decide_eq_true_iff, HDR.out]
            exact ⟨fun h => h.2, fun h => ⟨of_decide_eq_true HBB.out.symm, h⟩⟩
          clear HDR HE HBB
          go_wp2_with fail
          go_roundw
          case rel => exact ⟨k + 1, by omega, by go_num, HB3, HEN⟩
          case measure => simp [intOf]; omega
        | false =>
          have HEN : Hid (decide (l.map OpAt.op = m.map OpAt.op) = false) := by
            show _ = _
            rw [HE.out, decide_eq_false_iff_not, HDR.out]
            exact fun h => of_decide_eq_false HBB.out.symm h.1
          clear HDR HE HBB
          go_wp2_with fail
          go_ret
          exact ⟨by rw [HEN.out]; rfl, HB3.out⟩
      · have k1 : ¬ (k : Int) < (l.length : Int) := by omega
        have HEN : Hid (decide (l.map OpAt.op = m.map OpAt.op) = true) := by
          show _ = _
          rw [HE.out, List.drop_of_length_le (by omega), List.drop_of_length_le (by have := HLM.out; omega)]
          rfl
        go_wp2_with fail
        go_ret
        exact ⟨by rw [HEN.out]; rfl, HB.out⟩
  · have e0 : ((l.length : Int) != (m.length : Int)) = true := by simp; omega
    have HEN : Hid (decide (l.map OpAt.op = m.map OpAt.op) = false) := by
      show _ = _
      rw [decide_eq_false_iff_not]
      intro h
      have := congrArg List.length h
      simp at this
      exact hlm this
    clear hlm
    go_enter Tryz.func32, Tryz.ntmps32
    go_wp2_with fail
    go_ret
    exact ⟨by rw [HEN.out]; rfl, Below.refl _ _⟩
end SameOps
end Go.Proofs.YtngalkmmpjegkaaGreatDoor
/- The two documents are the same, part by part: by the contracts. Conditions: the documents are right. -/
namespace Go.Proofs.YtngalkmmpjegkaaGreatDoor
open Go.RowKit
set_option linter.unusedVariables false
namespace Twin
theorem rcells {w w3 : World} {B b1 b2 : Nat} {s : LDoc} {S1 S2 : List Nat} {D1 : DLay} {D2 : RLay} (h : Twin w B b1 b2 s s w3 S1 S2 D1 D2) (W : World) (hb : Below w3.heap.size w3 W) : W.cell? ⟨b2, 0, none⟩ = some (.slice D2.a1 s.book.length D2.c1) ∧ W.cell? ⟨b2, 1, none⟩ = some (.slice D2.a2 s.marks.length D2.c2) ∧ W.cell? ⟨b2, 2, none⟩ = some (.slice D2.a3 s.known.length D2.c3) ∧ W.cell? ⟨b2, 3, none⟩ = some (.slice D2.a4 s.ops.length D2.c4) := by
  have h1 := (h.two.below hb).blk
  exact ⟨by rw [h1.cell]; rfl, by rw [h1.cell]; rfl, by rw [h1.cell]; rfl, by rw [h1.cell]; rfl⟩
variable {w w3 : World} {B b1 b2 : Nat} {s : LDoc} {S1 S2 : List Nat} {D1 : DLay} {D2 : RLay} (h : Twin w B b1 b2 s s w3 S1 S2 D1 D2) (ok : s.Ok)
include h ok
theorem books (W : World) (hb : Below w3.heap.size w3 W) : Calls Tryz.prog 21 #[.pointer (some ⟨b1, 0, none⟩)] W (fun e w' => ∃ V c, e = .returned (.slice V s.book.length c) ∧ Below w3.heap.size w3 w' ∧
    ∀ W2, Below w'.heap.size w' W2 → Calls Tryz.prog 20 #[.slice V s.book.length c, .slice D2.a1 s.book.length D2.c1] W2 (fun e w4 => e = .returned (.bool true) ∧ Below w3.heap.size w3 w4)) := by
  refine (book_doc W _ _ _ _ _ (h.one.below hb) ok).mono ?_
  rintro e w' ⟨V, c, rfl, hO, hb2⟩
  have hb3 := hb.trans (hb2.mono hb.size)
  refine ⟨V, c, rfl, hb3, fun W2 hW2 => ?_⟩
  have hb4 := hb3.trans (hW2.mono hb3.size)
  exact (leafs_same W2 V D2.a1 c D2.c1 s.book (hO.below hW2).reads (h.two.below hb4).book.row (by have := ok.book.few; omega)).mono fun e w4 hh => ⟨hh.1, hb4.trans (hh.2.mono hb4.size)⟩
theorem markss (W : World) (hb : Below w3.heap.size w3 W) : Calls Tryz.prog 23 #[.pointer (some ⟨b1, 0, none⟩)] W (fun e w' => ∃ V c, e = .returned (.slice V s.marks.length c) ∧ Below w3.heap.size w3 w' ∧
    ∀ W2, Below w'.heap.size w' W2 → Calls Tryz.prog 22 #[.slice V s.marks.length c, .slice D2.a2 s.marks.length D2.c2] W2 (fun e w4 => e = .returned (.bool true) ∧ Below w3.heap.size w3 w4)) := by
  refine (marks_doc W _ _ _ _ _ (h.one.below hb) ok).mono ?_
  rintro e w' ⟨V, c, rfl, hO, hb2⟩
  have hb3 := hb.trans (hb2.mono hb.size)
  refine ⟨V, c, rfl, hb3, fun W2 hW2 => ?_⟩
  have hb4 := hb3.trans (hW2.mono hb3.size)
  exact (marks_same W2 V D2.a2 c D2.c2 s.marks (hO.below hW2).reads (h.two.below hb4).marks.row (by have := ok.marks.few; omega)).mono fun e w4 hh => ⟨hh.1, hb4.trans (hh.2.mono hb4.size)⟩
theorem knowns (W : World) (hb : Below w3.heap.size w3 W) : Calls Tryz.prog 25 #[.pointer (some ⟨b1, 0, none⟩)] W (fun e w' => ∃ V c, e = .returned (.slice V s.known.length c) ∧ Below w3.heap.size w3 w' ∧
    ∀ W2, Below w'.heap.size w' W2 → Calls Tryz.prog 24 #[.slice V s.known.length c, .slice D2.a3 s.known.length D2.c3] W2 (fun e w4 => e = .returned (.bool true) ∧ Below w3.heap.size w3 w4)) := by
  refine (known_doc W _ _ _ _ _ (h.one.below hb) ok).mono ?_
  rintro e w' ⟨V, c, rfl, hO, hb2⟩
  have hb3 := hb.trans (hb2.mono hb.size)
  refine ⟨V, c, rfl, hb3, fun W2 hW2 => ?_⟩
  have hb4 := hb3.trans (hW2.mono hb3.size)
  exact (ints_same W2 V D2.a3 c D2.c3 s.known (hO.below hW2).reads (h.two.below hb4).known.reads (by have := (vec_ok ok.known).1; omega)).mono fun e w4 hh => ⟨hh.1, hb4.trans (hh.2.mono hb4.size)⟩
theorem opss (W : World) (hb : Below w3.heap.size w3 W) : Calls Tryz.prog 66 #[.pointer (some ⟨b1, 0, none⟩)] W (fun e w' => ∃ V c, e = .returned (.slice V s.ops.length c) ∧ Below w3.heap.size w3 w' ∧
    ∀ W2, Below w'.heap.size w' W2 → Calls Tryz.prog 32 #[.slice V s.ops.length c, .slice D2.a4 s.ops.length D2.c4] W2 (fun e w4 => e = .returned (.bool true) ∧ Below w3.heap.size w3 w4)) := by
  refine (ops_doc W _ _ _ _ _ (h.one.below hb) ok).mono ?_
  rintro e w' ⟨V, c, zs, rfl, hz, hO, hb2⟩
  have hb3 := hb.trans (hb2.mono hb.size)
  refine ⟨V, c, rfl, hb3, fun W2 hW2 => ?_⟩
  have hb4 := hb3.trans (hW2.mono hb3.size)
  have hd := h.two.below hb4
  have hl : zs.length = s.ops.length := by rw [← hz, List.length_map]
  have hl2 := hd.ys_len
  have few := ok.few
  have hseen : ∀ o ∈ s.ops, o.seen.length ≤ 40 := fun o ho => (op_ok (ok.ops o ho).1).2.2.2.2.2.2.1
  have key := SameOps.any W2 V D2.a4 c D2.c4 zs D2.ys (hO.row.below hW2).reads (by rw [hl2]; exact hd.ops.reads)
    (fun y hy => ⟨((hO.seen y hy).below hW2).reads, by have := hseen y.op (by rw [← hz]; exact List.mem_map.2 ⟨y, hy, rfl⟩); omega⟩)
    (fun y hy => ⟨(hd.seen y hy).row, by have := hseen y.op (by rw [← hd.same]; exact List.mem_map.2 ⟨y, hy, rfl⟩); omega⟩) (by omega) (by omega)
  rw [hz, hd.same, decide_eq_true rfl, hl, hl2] at key
  exact key.mono fun e w4 hh => ⟨hh.1, hb4.trans (hh.2.mono hb4.size)⟩
theorem texts (W : World) (hb : Below w3.heap.size w3 W) : Calls Tryz.prog 12 #[.pointer (some ⟨b1, 0, none⟩)] W (fun e w' => e = .returned (.string (textOf s.book)) ∧ Below w3.heap.size w3 w') :=
  (text_doc W _ _ _ _ _ (h.one.below hb) ok).mono fun e w' hh => ⟨hh.1, hb.trans (hh.2.mono hb.size)⟩
end Twin
end Go.Proofs.YtngalkmmpjegkaaGreatDoor
/- back.Last, walked. Conditions: the document is right. -/
namespace Go.Proofs.YtngalkmmpjegkaaGreatDoor
open Go.RowKit Go.Shelf
set_option linter.unusedVariables false
attribute [local go_sem] Oper.semAt_some
namespace LDoc
def lastF (d : LDoc) (who : Int) : Option LOp := d.ops.reverse.find? fun o => decide (o.dot.who = who)
def zeroO : LOp := ⟨⟨0, 0⟩, 0, ⟨#[]⟩, 0, []⟩
def lastE (d : LDoc) (who : Int) : Int := if whoE who ≠ 0 then 1 else if (d.lastF who).isSome = true then 0 else 5
def lastR (d : LDoc) (who : Int) : LOp := if whoE who ≠ 0 then zeroO else (d.lastF who).getD zeroO
end LDoc
def LastPost (w : World) (st : LDoc) (who : Int) (e : Ending) (w' : World) : Prop :=
  ∃ A c, e = .returned (.tuple #[(st.lastR who).val A c, errV (st.lastE who)]) ∧ Own w' w.heap.size 27 2 A (st.lastR who).seen.length c (dcells (st.lastR who).seen) ∧ Below w.heap.size w w'
def zero6 : Array Value := #[.int .i64 0, .int .i64 0, .int .i64 0, .string ⟨#[]⟩, .int .i64 0, .slice none 0 0]
/-- The three boxes of back.Last. -/
structure Boxes3 (W : World) (k : Nat) (who : Int) : Prop where
  who : Blk W k 3 #[.int .i64 who]
  op : Blk W (k + 1) 30 zero6
  err : Blk W (k + 1 + 1) 32 #[.nilIface]
theorem Boxes3.below {W W' : World} {k : Nat} {who : Int} (h : Boxes3 W k who) (hb : Below W.heap.size W W') : Boxes3 W' k who := ⟨h.who.below hb h.who.lt, h.op.below hb h.op.lt, h.err.below hb h.err.lt⟩
theorem Boxes3.turn {W W' : World} {row : Option Nat} {k : Nat} {who : Int} (h : Boxes3 W k who) (ht : Turned W W' row) : Boxes3 W' k who := ⟨ht.blk h.who, ht.blk h.op, ht.blk h.err⟩
theorem Boxes3.start (w : World) (who : Int) : Boxes3 (((w.alloc (.cells #[.int .i64 who] 3)).alloc (.cells zero6 30)).alloc (.cells #[.nilIface] 32)) w.heap.size who :=
  ⟨((Blk.new w 3 #[.int .i64 who]).alloc _).alloc _, (blk_new_at (by simp)).alloc _, blk_new_at (by simp)⟩
/-- An op and an error are put into their boxes. -/
def put7 (W : World) (k : Nat) (a0 a1 a2 a3 a4 a5 x : Value) : World :=
  ((((((W.setCell ⟨k + 1, 0, none⟩ a0).setCell ⟨k + 1, 1, none⟩ a1).setCell ⟨k + 1, 2, none⟩ a2).setCell ⟨k + 1, 3, none⟩ a3).setCell ⟨k + 1, 4, none⟩ a4).setCell ⟨k + 1, 5, none⟩ a5).setCell ⟨k + 1 + 1, 0, none⟩ x
theorem seven_set {W : World} {k : Nat} {who : Int} (h : Boxes3 W k who) (a0 a1 a2 a3 a4 a5 x : Value) :
    Blk (put7 W k a0 a1 a2 a3 a4 a5 x) (k + 1) 30 #[a0, a1, a2, a3, a4, a5] ∧ Blk (put7 W k a0 a1 a2 a3 a4 a5 x) (k + 1 + 1) 32 #[x] ∧ Only [k + 1, k + 1 + 1] W (put7 W k a0 a1 a2 a3 a4 a5 x) ∧ KeepsOthers W (put7 W k a0 a1 a2 a3 a4 a5 x) := by
  have b6 := (((((h.op.set_ 0 a0).set_ 1 a1).set_ 2 a2).set_ 3 a3).set_ 4 a4).set_ 5 a5
  have o6 : Only [k + 1] W ((((((W.setCell ⟨k + 1, 0, none⟩ a0).setCell ⟨k + 1, 1, none⟩ a1).setCell ⟨k + 1, 2, none⟩ a2).setCell ⟨k + 1, 3, none⟩ a3).setCell ⟨k + 1, 4, none⟩ a4).setCell ⟨k + 1, 5, none⟩ a5) :=
    ((((((Only.refl _ _).setCell (.inl (by simp)) _).setCell (.inl (by simp)) _).setCell (.inl (by simp)) _).setCell (.inl (by simp)) _).setCell (.inl (by simp)) _).setCell (.inl (by simp)) _
  have b7 := o6.blk h.err (by simp)
  have o7 : Only [k + 1 + 1] ((((((W.setCell ⟨k + 1, 0, none⟩ a0).setCell ⟨k + 1, 1, none⟩ a1).setCell ⟨k + 1, 2, none⟩ a2).setCell ⟨k + 1, 3, none⟩ a3).setCell ⟨k + 1, 4, none⟩ a4).setCell ⟨k + 1, 5, none⟩ a5) (put7 W k a0 a1 a2 a3 a4 a5 x) := (Only.refl _ _).setCell (.inl (by simp)) _
  refine ⟨o7.blk b6 (by simp), b7.set_ 0 x, (o6.mono (fun i hi => by simp at hi; exact .inl (by simp [hi]))).setCell (.inl (by simp)) _, ?_⟩
  exact (((((((KeepsOthers.setCell _ _ _).trans (KeepsOthers.setCell _ _ _)).trans (KeepsOthers.setCell _ _ _)).trans (KeepsOthers.setCell _ _ _)).trans (KeepsOthers.setCell _ _ _)).trans (KeepsOthers.setCell _ _ _)).trans (KeepsOthers.setCell _ _ _))
set_option maxRecDepth 100000 in
set_option maxHeartbeats 8000000 in
theorem last_bad (w : World) (b : Nat) (st : LDoc) (who : Int) (hbad : LDoc.whoE who ≠ 0) :
    Calls Tryz.prog 28 #[.pointer (some ⟨b, 0, none⟩), .int .i64 who] w (LastPost w st who) := by
  have HE : Hid (st.lastE who = 1) := if_pos hbad
  have HR : Hid (st.lastR who = LDoc.zeroO) := if_pos hbad
  have HA := Lib.hid (fun W => author_any W who)
  have HV := Lib.hid (errV_ne (show (1 : Int) ≠ 0 by decide))
  obtain ⟨W0, hW0⟩ : ∃ W0, W0 = (((w.alloc (.cells #[.int .i64 who] 3)).alloc (.cells #[.int .i64 0, .int .i64 0, .int .i64 0, .string ⟨#[]⟩, .int .i64 0, .slice none 0 0] 30)).alloc (.cells #[.nilIface] 32)) := ⟨_, rfl⟩
  have HB0 : Hid (Below w.heap.size w W0) := by rw [hW0]; exact (((Below.refl _ w).alloc (Nat.le_refl _) _).alloc (by simp) _).alloc (by simp; omega) _
  have HX0 : Hid (Boxes3 W0 w.heap.size who) := by rw [hW0]; exact Boxes3.start w who
  have HAU : Hid (Calls Tryz.prog 64 #[.int .i64 who] W0 fun e w' => e = .returned (.bool false) ∧ w' = W0) := by
    have := HA.out W0
    have e : (decide (1 ≤ who) && decide (who ≤ 8)) = false := by
      unfold LDoc.whoE at hbad
      split at hbad
      · rw [Bool.and_eq_false_iff, decide_eq_false_iff_not, decide_eq_false_iff_not]; omega
      · exact absurd rfl hbad
    rw [e] at this
    exact this
  clear HA hbad
  refine (callsIn_wide (n := 6)).1 ?_
  refine callsIn_of_wp_marks Tryz.func28 rfl trivial ?_ rfl
  simp only [Tryz.ntmps28, List.size_toArray, List.length_cons, List.length_nil, Nat.reduceAdd, Nat.reduceSub, Array.replicate_succ, Array.replicate_zero, List.push_toArray, List.append_toArray, List.nil_append, List.cons_append]
  gi_wp2
  rw [← hW0]
  clear hW0
  refine ⟨trivial, callsIn_wide.2 (HAU.out.mono ?_)⟩
  rintro e w1 ⟨rfl, hw1⟩
  obtain rfl := hw1.symm
  have f2 := HX0.out.err.frozen 0
  have g0 := HX0.out.op.frozen 0
  have g1 := HX0.out.op.frozen 1
  have g2 := HX0.out.op.frozen 2
  have g3 := HX0.out.op.frozen 3
  have g4 := HX0.out.op.frozen 4
  have g5 := HX0.out.op.frozen 5
  have x0 : W0.cell? ⟨w.heap.size + 1, 0, none⟩ = some (.int .i64 0) := by rw [HX0.out.op.cell]; rfl
  have x1 : W0.cell? ⟨w.heap.size + 1, 1, none⟩ = some (.int .i64 0) := by rw [HX0.out.op.cell]; rfl
  have x2 : W0.cell? ⟨w.heap.size + 1, 2, none⟩ = some (.int .i64 0) := by rw [HX0.out.op.cell]; rfl
  have x3 : W0.cell? ⟨w.heap.size + 1, 3, none⟩ = some (.string ⟨#[]⟩) := by rw [HX0.out.op.cell]; rfl
  have x4 : W0.cell? ⟨w.heap.size + 1, 4, none⟩ = some (.int .i64 0) := by rw [HX0.out.op.cell]; rfl
  have x5 : W0.cell? ⟨w.heap.size + 1, 5, none⟩ = some (.slice none 0 0) := by rw [HX0.out.op.cell]; rfl
  have c2 : W0.cell? ⟨w.heap.size + 1 + 1, 0, none⟩ = some .nilIface := by rw [HX0.out.err.cell]; rfl
  gi_wp2
  rw [← HV.out]
  obtain ⟨b1, b2, o, _⟩ := seven_set HX0.out (.int .i64 0) (.int .i64 0) (.int .i64 0) (.string ⟨#[]⟩) (.int .i64 0) (.slice none 0 0) (errV 1)
  have hb := HB0.out.trans (o.below HB0.out.size (fun g hg => by simp at hg; omega))
  have HP : Hid (LastPost w st who (.returned (.tuple #[.agg #[.int .i64 0, .int .i64 0, .int .i64 0, .string ⟨#[]⟩, .int .i64 0, .slice none 0 0], errV 1])) (put7 W0 w.heap.size (.int .i64 0) (.int .i64 0) (.int .i64 0) (.string ⟨#[]⟩) (.int .i64 0) (.slice none 0 0) (errV 1))) := by
    refine ⟨none, 0, ?_, ?_, hb⟩
    · rw [HE.out, HR.out]; rfl
    · rw [HR.out]; exact Own.nil _ _ _ _
  have y0 := b1.cell 0
  have y1 := b1.cell 1
  have y2 := b1.cell 2
  have y3 := b1.cell 3
  have y4 := b1.cell 4
  have y5 := b1.cell 5
  have y6 := b2.cell 0
  unfold put7 at y0 y1 y2 y3 y4 y5 y6
  refine ⟨_, ?_, HP.out⟩
  simp [results, Tryz.f28, go_sem, y0, y1, y2, y3, y4, y5, y6]
/-- Between two rounds: none was of this author yet. -/
structure LInv (D B0 k : Nat) (who : Int) (zs : List OpAt) (pre : List LOp) (W : World) : Prop where
  none_ : ∀ o ∈ pre, o.dot.who ≠ who
  box : Boxes3 W k who
  seen : ∀ z ∈ zs, Own W B0 27 2 z.at_ z.op.seen.length z.cap (dcells z.op.seen)
  size : D ≤ W.heap.size
theorem LInv.below {D B0 k : Nat} {who : Int} {zs : List OpAt} {pre : List LOp} {W W' : World} (h : LInv D B0 k who zs pre W) (hb : Below W.heap.size W W') : LInv D B0 k who zs pre W' :=
  ⟨h.none_, h.box.below hb, fun z hz => (h.seen z hz).only (S := []) (Only.of_below hb) (by simp), Nat.le_trans h.size hb.size⟩
theorem LInv.ownFrom {D D' B0 k : Nat} {who : Int} {zs : List OpAt} : OwnFrom D' (fun (pre : List (Nat × OpAt)) W => LInv D B0 k who zs (pre.map fun x => x.2.op) W) :=
  fun s W W' row hs hg hrow => by
    have ht : Turned W W' row := ⟨hg, fun g e => (hrow g e).2⟩
    exact ⟨hs.none_, hs.box.turn ht, fun z hz => ht.own (hs.seen z hz), Nat.le_trans hs.size ht.1.size⟩
/-- The rounds were left: the last one is it. -/
structure LHit (B0 k : Nat) (who : Int) (zs : List OpAt) (pre : List (Nat × OpAt)) (W : World) : Prop where
  hit : ∃ pre' x, pre = pre' ++ [x] ∧ x.2.op.dot.who = who ∧ (∀ o ∈ pre'.map (fun x => x.2.op), o.dot.who ≠ who) ∧ Blk W (k + 1) 30 (x.2.op.cells x.2.at_ x.2.cap) ∧ Blk W (k + 1 + 1) 32 #[.nilIface]
  seen : ∀ z ∈ zs, Own W B0 27 2 z.at_ z.op.seen.length z.cap (dcells z.op.seen)
theorem LHit.ownFrom {D B0 k : Nat} {who : Int} {zs : List OpAt} : OwnFrom D (fun (pre : List (Nat × OpAt)) W => LHit B0 k who zs pre W) :=
  fun s W W' row hs hg hrow => by
    have ht : Turned W W' row := ⟨hg, fun g e => (hrow g e).2⟩
    obtain ⟨p, x, h1, h2, h3, h4, h5⟩ := hs.hit
    exact ⟨⟨p, x, h1, h2, h3, ht.blk h4, ht.blk h5⟩, fun z hz => ht.own (hs.seen z hz)⟩
/-- A round's frame: the variable lies in a box of its own. -/
def LastAct (fr : Act) (D : Nat) (x : Nat × OpAt) (a' : Act) (W : World) : Prop :=
  ∃ Bx, D ≤ Bx ∧ Blk W Bx 30 (x.2.op.cells x.2.at_ x.2.cap) ∧ a' = { tmps := ((#[16, 17].zip (backEnc x)).foldl (fun t (p, v) => t.setIfInBounds p v) fr.tmps).setIfInBounds 7 (.pointer (some ⟨Bx, 0, none⟩)), defers := [] }
theorem LastAct.ownFrom {fr : Act} {D D' : Nat} (x : Nat × OpAt) (a' : Act) : OwnFrom D' (fun (_ : Unit) W => LastAct fr D x a' W) := fun s W W' row hs hg hrow => by
  obtain ⟨Bx, h1, h2, h3⟩ := hs
  have ht : Turned W W' row := ⟨hg, fun g e => (hrow g e).2⟩
  exact ⟨Bx, h1, ht.blk h2, h3⟩
theorem find_app {α : Type} {p : α → Bool} {a b : List α} {x : α} (h : ∀ y ∈ a, p y = false) (hx : p x = true) : ((a ++ [x]) ++ b).find? p = some x := by
  rw [List.append_assoc, List.find?_append, List.find?_eq_none.2 (fun y hy => by simp [h y hy])]
  simp [hx]
set_option maxRecDepth 100000 in
set_option maxHeartbeats 8000000 in
theorem last_good (w : World) (B : Nat) (S : List Nat) (b : Nat) (st : LDoc) (D : DLay) (h : DocIs w B S b st D) (ok : st.Ok) (who : Int) (hgood : LDoc.whoE who = 0) :
    Calls Tryz.prog 28 #[.pointer (some ⟨b, 0, none⟩), .int .i64 who] w (LastPost w st who) := by
  have HE : Hid (st.lastE who = if (st.lastF who).isSome = true then 0 else 5) := if_neg (by simp [hgood])
  have HR : Hid (st.lastR who = (st.lastF who).getD LDoc.zeroO) := if_neg (by simp [hgood])
  have HA := Lib.hid (fun W => author_any W who)
  have HOP := Lib.hid (fun W (hb : Below w.heap.size w W) => ops_doc W B S b st D (h.below hb) ok)
  have HOK := Lib.hid ok
  obtain ⟨W0, hW0⟩ : ∃ W0, W0 = (((w.alloc (.cells #[.int .i64 who] 3)).alloc (.cells #[.int .i64 0, .int .i64 0, .int .i64 0, .string ⟨#[]⟩, .int .i64 0, .slice none 0 0] 30)).alloc (.cells #[.nilIface] 32)) := ⟨_, rfl⟩
  have HB0 : Hid (Below w.heap.size w W0) := by rw [hW0]; exact (((Below.refl _ w).alloc (Nat.le_refl _) _).alloc (by simp) _).alloc (by simp; omega) _
  have HX0 : Hid (Boxes3 W0 w.heap.size who) := by rw [hW0]; exact Boxes3.start w who
  have HAU : Hid (Calls Tryz.prog 64 #[.int .i64 who] W0 fun e w' => e = .returned (.bool true) ∧ w' = W0) := by
    have := HA.out W0
    have e : (decide (1 ≤ who) && decide (who ≤ 8)) = true := by
      obtain ⟨_, h1, h2⟩ := who_dot hgood
      simp [h1, h2]
    rw [e] at this
    exact this
  clear HA h ok
  refine (callsIn_wide (n := 6)).1 ?_
  refine callsIn_of_wp_marks Tryz.func28 rfl trivial ?_ rfl
  simp only [Tryz.ntmps28, List.size_toArray, List.length_cons, List.length_nil, Nat.reduceAdd, Nat.reduceSub, Array.replicate_succ, Array.replicate_zero, List.push_toArray, List.append_toArray, List.nil_append, List.cons_append]
  gi_wp2
  rw [← hW0]
  clear hW0
  refine ⟨trivial, callsIn_wide.2 (HAU.out.mono ?_)⟩
  rintro e w1 ⟨rfl, hw1⟩
  obtain rfl := hw1.symm
  gi_wp2
  refine ⟨trivial, callsIn_wide.2 ((HOP.out _ HB0.out).mono ?_)⟩
  rintro e w4 ⟨V, c, zs, rfl, hzs, hO, hb4⟩
  have HB4 := Lib.hid (HB0.out.trans (hb4.mono HB0.out.size))
  have HX4 := Lib.hid (HX0.out.below hb4)
  have HO := Lib.hid hO
  have hs4 := hb4.size
  have HZS := Lib.hid hzs
  have hzl : st.ops.length = zs.length := by rw [← hzs, List.length_map]
  have hfew := HOK.out.few
  rw [hzl]
  have HRV : Hid (Reads w4 w4.heap.size 6 V zs.length (ocells zs)) := hO.row.reads
  clear hb4 hO hzs
  gi_wp2
  refine ⟨trivial, (backward_in Fence.wide 5 trivial rfl V zs.length c w4).mono ?_⟩
  rintro e w5 ⟨rfl, rfl⟩
  gi_wp2
  have HUI : Hid (LInv (w4.heap.size + 1) W0.heap.size w.heap.size who zs [] (w4.alloc (.cells #[.slice V zs.length c] 22))) :=
    ⟨by simp, HX4.out.below ((Below.refl _ _).alloc (Nat.le_refl _) _), fun z hz => (HO.out.seen z hz).only (S := []) (Only.of_below ((Below.refl _ _).alloc (Nat.le_refl _) _)) (by simp), by simp⟩
  have HBW : Hid (Below w.heap.size w (w4.alloc (.cells #[.slice V zs.length c] 22))) := HB4.out.alloc (by have := HB4.out.size; omega) _
  have hbx : (w4.alloc (.cells #[.slice V zs.length c] 22)).cell? ⟨w4.heap.size, 0, none⟩ = some (.slice V zs.length c) := by rw [(Blk.new w4 22 #[.slice V zs.length c]).cell]; rfl
  have HVT : Hid (∀ g ∈ w4.heap.size :: ob V, g < w4.heap.size + 1) := fun g hg => by
    rcases List.mem_cons.1 hg with rfl | hg
    · omega
    · have := (HO.out.row.lt g hg).2
      omega
  have hbD : w.heap.size ≤ (w4.alloc (.cells #[.slice V zs.length c] 22)).heap.size := HBW.out.size
  have HSZ : Hid (w.heap.size + 1 + 1 < W0.heap.size) := HX0.out.err.lt
  refine name_act ?_
  intro fr hfr
  refine wpIn_rangeFunc_ownH rfl (by decide) (gf := 105) (lb := #[.pointer (some ⟨w4.heap.size, 0, none⟩)]) (by rw [hfr]; rfl) trivial (enters_of Tryz.func105 (by kernel_rfl) rfl)
    (back_stops Fence.wide 5 trivial rfl (by decide) w4.heap.size w4.heap.size V zs c (by omega) _ (by simp) (by simp) hbx (HRV.out.alloc (Nat.le_refl _) _) (w4.heap.size :: ob V) (by simp) (fun g hg => by simp [hg]))
    keepT_t (keepT_b (by simpa using HVT.out)) (Below.refl _ _) (fun _ => rfl)
    (fun pre W => LInv (w4.heap.size + 1) W0.heap.size w.heap.size who zs (pre.map fun x => x.2.op) W ∧ Below w.heap.size w W)
    (fun x pre W => (x = .ret ∧ LHit W0.heap.size w.heap.size who zs pre W) ∧ Below w.heap.size w W)
    (OwnFrom.and LInv.ownFrom (ownFrom_below (Nat.le_refl _) hbD))
    (fun x => OwnFrom.and (fun s W W' row hs hg hrow => ⟨hs.1, LHit.ownFrom s W W' row hs.2 hg hrow⟩) (ownFrom_below (Nat.le_refl _) hbD))
    ⟨HUI.out, HBW.out⟩ (LastAct fr (w4.heap.size + 1)) (fun x a' => LastAct.ownFrom x a') ?assign ?body ?done ?stop
  case assign =>
    intro l pre x W K hi hK
    have hbx2 : Below W.heap.size W (W.alloc (.cells (x.2.op.cells x.2.at_ x.2.cap) 30)) := (Below.refl _ W).alloc (Nat.le_refl _) _
    have hkt : KeepT (w4.heap.size :: ob V) W (W.alloc (.cells (x.2.op.cells x.2.at_ x.2.cap) 30)) := fun g hg => by
      have h1 := HVT.out g hg
      have h2 := hi.1.size
      exact Below.heap_alloc W _ g (by omega)
    have hf := hK { tmps := ((#[16, 17].zip (backEnc x)).foldl (fun t (p, v) => t.setIfInBounds p v) fr.tmps).setIfInBounds 7 (.pointer (some ⟨W.heap.size, 0, none⟩)), defers := [] } (W.alloc (.cells (x.2.op.cells x.2.at_ x.2.cap) 30)) ((KeepsOthers.alloc _ _).from _) hkt ⟨hi.1.below hbx2, hi.2.trans (hbx2.mono hi.2.size)⟩ ⟨W.heap.size, hi.1.size, Blk.new W _ _, rfl⟩
    clear hK hi hkt hbx2
    subst hfr
    obtain ⟨xi, ⟨⟨⟨xw, xn⟩, what, p, letter, seen⟩, ya, yc⟩⟩ := x
    unfold LOp.cells at hf
    unfold backEnc LOp.val at hf ⊢
    gi_wp2
    first
      | exact hf
      | (have e := hf
         simp at e
         exact e)
      | (refine Eq.mp (congrArg (fun q : Act => K q _) ?_) hf
         simp [Array.zip])
  case body =>
    rintro l pre x a' W hl ⟨r0, hr0⟩ ⟨hI, hBW⟩ ⟨Bx, hBx, hbX, ha'⟩ hlt
    have h9 := hI.box
    have cw : W.cell? ⟨w.heap.size, 0, none⟩ = some (.int .i64 who) := by rw [h9.who.cell]; rfl
    subst hfr
    simp [backEnc] at ha'
    subst ha'
    obtain ⟨xi, ⟨⟨⟨xw, xn⟩, what, p, letter, seen⟩, ya, yc⟩⟩ := x
    unfold LOp.cells at hbX
    dsimp only at hbX
    have cx : W.cell? ⟨Bx, 0, none⟩ = some (.int .i64 xw) := by rw [hbX.cell]; rfl
    by_cases hwho : xw = who
    · subst hwho
      have gw : (xw == xw) = true := by simp
      have x1 : W.cell? ⟨Bx, 1, none⟩ = some (.int .i64 xn) := by rw [hbX.cell]; rfl
      have x2 : W.cell? ⟨Bx, 2, none⟩ = some (.int .i64 what) := by rw [hbX.cell]; rfl
      have x3 : W.cell? ⟨Bx, 3, none⟩ = some (.string p) := by rw [hbX.cell]; rfl
      have x4 : W.cell? ⟨Bx, 4, none⟩ = some (.int .i64 letter) := by rw [hbX.cell]; rfl
      have x5 : W.cell? ⟨Bx, 5, none⟩ = some (.slice ya seen.length yc) := by rw [hbX.cell]; rfl
      have f2 := h9.err.frozen 0
      have g0 := h9.op.frozen 0
      have g1 := h9.op.frozen 1
      have g2 := h9.op.frozen 2
      have g3 := h9.op.frozen 3
      have g4 := h9.op.frozen 4
      have g5 := h9.op.frozen 5
      have z0 : W.cell? ⟨w.heap.size + 1, 0, none⟩ = some (.int .i64 0) := by rw [h9.op.cell]; rfl
      have z1 : W.cell? ⟨w.heap.size + 1, 1, none⟩ = some (.int .i64 0) := by rw [h9.op.cell]; rfl
      have z2 : W.cell? ⟨w.heap.size + 1, 2, none⟩ = some (.int .i64 0) := by rw [h9.op.cell]; rfl
      have z3 : W.cell? ⟨w.heap.size + 1, 3, none⟩ = some (.string ⟨#[]⟩) := by rw [h9.op.cell]; rfl
      have z4 : W.cell? ⟨w.heap.size + 1, 4, none⟩ = some (.int .i64 0) := by rw [h9.op.cell]; rfl
      have z5 : W.cell? ⟨w.heap.size + 1, 5, none⟩ = some (.slice none 0 0) := by rw [h9.op.cell]; rfl
      have c2 : W.cell? ⟨w.heap.size + 1 + 1, 0, none⟩ = some .nilIface := by rw [h9.err.cell]; rfl
      gi_wp2
      obtain ⟨b1, b2, o, ko⟩ := seven_set h9 (.int .i64 xw) (.int .i64 xn) (.int .i64 what) (.string p) (.int .i64 letter) (.slice ya seen.length yc) .nilIface
      have hz := HSZ.out
      exact ⟨ko.from _, ⟨rfl, ⟨pre, _, rfl, rfl, hI.none_, b1, b2⟩, fun z hz' => (hI.seen z hz').only o (fun g hg hm => by
        have := ((hI.seen z hz').lt g hg).1
        simp at hm; omega)⟩, hBW.trans (o.below hBW.size (fun g hg => by simp at hg; omega))⟩
    · have gw : (xw == who) = false := by simp [hwho]
      have hI2 : LInv (w4.heap.size + 1) W0.heap.size w.heap.size who zs ((pre ++ [(xi, (⟨⟨⟨xw, xn⟩, what, p, letter, seen⟩, ya, yc⟩ : OpAt))]).map fun x => x.2.op) W := by
        refine ⟨fun o ho => ?_, hI.box, hI.seen, hI.size⟩
        rw [List.map_append] at ho
        rcases List.mem_append.1 ho with ho | ho
        · exact hI.none_ o ho
        · simp at ho; subst ho; exact hwho
      gi_wp2
      exact ⟨KeepsFrom.refl _ _, KeepT.refl _ _, hI2, hBW⟩
  case done =>
    rintro D xs W hD rfl ⟨hI, hBW⟩ hK
    have h9 := hI.box
    have hnone : st.lastF who = none := by
      unfold LDoc.lastF
      rw [List.find?_eq_none]
      intro o ho
      have := hI.none_ o (by rw [backUp_all, HZS.out]; exact ho)
      simpa using this
    have HV := Lib.hid (errV_ne (show (5 : Int) ≠ 0 by decide))
    have f2 := h9.err.frozen 0
    have g0 := h9.op.frozen 0
    have g1 := h9.op.frozen 1
    have g2 := h9.op.frozen 2
    have g3 := h9.op.frozen 3
    have g4 := h9.op.frozen 4
    have g5 := h9.op.frozen 5
    have z0 : W.cell? ⟨w.heap.size + 1, 0, none⟩ = some (.int .i64 0) := by rw [h9.op.cell]; rfl
    have z1 : W.cell? ⟨w.heap.size + 1, 1, none⟩ = some (.int .i64 0) := by rw [h9.op.cell]; rfl
    have z2 : W.cell? ⟨w.heap.size + 1, 2, none⟩ = some (.int .i64 0) := by rw [h9.op.cell]; rfl
    have z3 : W.cell? ⟨w.heap.size + 1, 3, none⟩ = some (.string ⟨#[]⟩) := by rw [h9.op.cell]; rfl
    have z4 : W.cell? ⟨w.heap.size + 1, 4, none⟩ = some (.int .i64 0) := by rw [h9.op.cell]; rfl
    have z5 : W.cell? ⟨w.heap.size + 1, 5, none⟩ = some (.slice none 0 0) := by rw [h9.op.cell]; rfl
    have c2 : W.cell? ⟨w.heap.size + 1 + 1, 0, none⟩ = some .nilIface := by rw [h9.err.cell]; rfl
    subst hfr
    have HHN := Lib.hid hnone
    clear hnone
    gi_wp2
    rw [← HV.out]
    obtain ⟨b1, b2, o, ko⟩ := seven_set h9 (.int .i64 0) (.int .i64 0) (.int .i64 0) (.string ⟨#[]⟩) (.int .i64 0) (.slice none 0 0) (errV 5)
    have hK2 := ko.same D _ hK rfl
    have hg := grownBy_putObj' (put7 W w.heap.size (.int .i64 0) (.int .i64 0) (.int .i64 0) (.string ⟨#[]⟩) (.int .i64 0) (.slice none 0 0) (errV 5)) D (.deferred none)
    have e0 := cell_kept (b1.cell 0) hg (fun r e => by cases e; exact ⟨_, hK2, rfl⟩)
    have e1 := cell_kept (b1.cell 1) hg (fun r e => by cases e; exact ⟨_, hK2, rfl⟩)
    have e2 := cell_kept (b1.cell 2) hg (fun r e => by cases e; exact ⟨_, hK2, rfl⟩)
    have e3 := cell_kept (b1.cell 3) hg (fun r e => by cases e; exact ⟨_, hK2, rfl⟩)
    have e4 := cell_kept (b1.cell 4) hg (fun r e => by cases e; exact ⟨_, hK2, rfl⟩)
    have e5 := cell_kept (b1.cell 5) hg (fun r e => by cases e; exact ⟨_, hK2, rfl⟩)
    have e6 := cell_kept (b2.cell 0) hg (fun r e => by cases e; exact ⟨_, hK2, rfl⟩)
    have hbf : Below w.heap.size w ((put7 W w.heap.size (.int .i64 0) (.int .i64 0) (.int .i64 0) (.string ⟨#[]⟩) (.int .i64 0) (.slice none 0 0) (errV 5)).putObj D (.deferred none)) :=
      (hBW.trans (o.below hBW.size (fun g hg => by simp at hg; omega))).trans (belowK_b (w := w) (Nat.le_refl _) _ D _ _ (by have := HBW.out.size; omega) hK2 rfl rfl)
    have HP : Hid (LastPost w st who (.returned (.tuple #[.agg #[.int .i64 0, .int .i64 0, .int .i64 0, .string ⟨#[]⟩, .int .i64 0, .slice none 0 0], errV 5])) ((put7 W w.heap.size (.int .i64 0) (.int .i64 0) (.int .i64 0) (.string ⟨#[]⟩) (.int .i64 0) (.slice none 0 0) (errV 5)).putObj D (.deferred none))) := by
      refine ⟨none, 0, ?_, ?_, hbf⟩
      · rw [HE.out, HR.out, HHN.out]; rfl
      · rw [HR.out, HHN.out]; exact Own.nil _ _ _ _
    unfold put7 at e0 e1 e2 e3 e4 e5 e6 hK2
    refine ⟨by simp, .inl ⟨_, _, rfl, run_takeDeferred hK2, ?_⟩⟩
    refine ⟨_, ?_, HP.out⟩
    simp [results, Tryz.f28, go_sem, e0, e1, e2, e3, e4, e5, e6, put7]
  case stop =>
    rintro D x pre W hD ⟨k2, hk2, rfl⟩ ⟨⟨rfl, hL⟩, hBW⟩ hK
    obtain ⟨pre', ⟨xi, y⟩, hpre, hxw, hno, b1, b2⟩ := hL.hit
    dsimp only at hxw b1
    have hy : y ∈ zs := by
      have : (xi, y) ∈ backUp zs k2 := by rw [hpre]; simp
      unfold backUp at this
      obtain ⟨j, hj, e⟩ := List.mem_map.1 this
      have hj2 : j < k2 := by simpa using hj
      injection e with e1 e2
      rw [← e2]
      have : zs.length - 1 - j < zs.length := by omega
      simp [List.getD, this]
    have hfind : st.lastF who = some y.op := by
      unfold LDoc.lastF
      have h1 := List.take_append_drop k2 st.ops.reverse
      have h2 := backUp_take zs hk2
      rw [HZS.out, hpre, List.map_append] at h2
      rw [← h1, ← h2]
      exact find_app (fun o ho => by simpa using hno o ho) (by simpa using hxw)
    have hown := hL.seen y hy
    have HHF := Lib.hid hfind
    clear hfind hpre hno
    obtain ⟨⟨⟨yw, yn⟩, what, p, letter, seen⟩, ya, yc⟩ := y
    unfold LOp.cells at b1
    dsimp only at b1 hown
    have hg := grownBy_putObj' W D (.deferred none)
    have e0 := cell_kept (b1.cell 0) hg (fun r e => by cases e; exact ⟨_, hK, rfl⟩)
    have e1 := cell_kept (b1.cell 1) hg (fun r e => by cases e; exact ⟨_, hK, rfl⟩)
    have e2 := cell_kept (b1.cell 2) hg (fun r e => by cases e; exact ⟨_, hK, rfl⟩)
    have e3 := cell_kept (b1.cell 3) hg (fun r e => by cases e; exact ⟨_, hK, rfl⟩)
    have e4 := cell_kept (b1.cell 4) hg (fun r e => by cases e; exact ⟨_, hK, rfl⟩)
    have e5 := cell_kept (b1.cell 5) hg (fun r e => by cases e; exact ⟨_, hK, rfl⟩)
    have e6 := cell_kept (b2.cell 0) hg (fun r e => by cases e; exact ⟨_, hK, rfl⟩)
    have ht : Turned W (W.putObj D (.deferred none)) (some D) := ⟨hg, fun r e => by cases e; exact ⟨_, hK, rfl⟩⟩
    have HP : Hid (LastPost w st who (.returned (.tuple #[.agg #[.int .i64 yw, .int .i64 yn, .int .i64 what, .string p, .int .i64 letter, .slice ya seen.length yc], .nilIface])) (W.putObj D (.deferred none))) := by
      refine ⟨ya, yc, ?_, ?_, hBW.trans (belowK_b (w := w) (Nat.le_refl _) _ D _ _ (by have := HBW.out.size; omega) hK rfl rfl)⟩
      · rw [HE.out, HR.out, HHF.out]; rfl
      · rw [HR.out, HHF.out]
        exact (ht.own hown).mono HB0.out.size
    subst hfr
    gi_wp2
    refine ⟨by simp, .inl ⟨_, _, rfl, run_takeDeferred hK, ?_⟩⟩
    refine ⟨_, ?_, HP.out⟩
    simp [results, Tryz.f28, go_sem, e0, e1, e2, e3, e4, e5, e6]
theorem last_any (w : World) (B : Nat) (S : List Nat) (b : Nat) (st : LDoc) (D : DLay) (h : DocIs w B S b st D) (ok : st.Ok) (who : Int) :
    Calls Tryz.prog 28 #[.pointer (some ⟨b, 0, none⟩), .int .i64 who] w (LastPost w st who) := by
  by_cases hw : LDoc.whoE who = 0
  · exact last_good w B S b st D h ok who hw
  · exact last_bad w b st who hw
end Go.Proofs.YtngalkmmpjegkaaGreatDoor
/- A letter that was struck, taken back: plain. Conditions: none. -/
namespace Go.Proofs.YtngalkmmpjegkaaGreatDoor
open Go.RowKit
set_option linter.unusedVariables false
theorem strikes_cons (a b : Int) (x : LLeaf) (l : List LLeaf) (i : Int) (m : LMk) : LMk.strikes a b (x :: l) i m = if seenB x = true then LMk.strikes a b l (i + 1) (if a ≤ i ∧ i < b then m.st x.place else m) else LMk.strikes a b l i m := rfl
theorem strikes_app (a b : Int) : ∀ (A L : List LLeaf) (i : Int) (m : LMk), LMk.strikes a b (A ++ L) i m = LMk.strikes a b L (i + (textL A).length) (LMk.strikes a b A i m)
  | [], L, i, m => by simp [LMk.strikes, textL]
  | x :: A, L, i, m => by
    rw [List.cons_append, strikes_cons, strikes_cons, textL_cons]
    by_cases hs : seenB x = true
    · rw [if_pos hs, if_pos hs, if_pos hs, strikes_app a b A L]
      have e : i + 1 + ((textL A).length : Int) = i + (([u8 x.letter] ++ textL A).length : Int) := by simp; omega
      rw [e]
    · rw [if_neg hs, if_neg hs, if_neg hs, strikes_app a b A L]
      simp
theorem strikes_low {a b : Int} : ∀ (A : List LLeaf) (i : Int) (m : LMk), i + (textL A).length ≤ a → LMk.strikes a b A i m = m
  | [], i, m => fun _ => rfl
  | x :: A, i, m => fun h => by
    rw [textL_cons] at h
    rw [strikes_cons]
    by_cases hs : seenB x = true
    · rw [if_pos hs] at h ⊢
      simp only [List.length_append, List.length_cons, List.length_nil] at h
      rw [if_neg (by omega)]
      exact strikes_low A (i + 1) m (by omega)
    · rw [if_neg hs] at h ⊢
      exact strikes_low A i m (by simpa using h)
theorem strikes_high {a b : Int} : ∀ (A : List LLeaf) (i : Int) (m : LMk), b ≤ i → LMk.strikes a b A i m = m
  | [], i, m => fun _ => rfl
  | x :: A, i, m => fun h => by
    rw [strikes_cons]
    by_cases hs : seenB x = true
    · rw [if_pos hs, if_neg (by omega)]
      exact strikes_high A (i + 1) m (by omega)
    · rw [if_neg hs]
      exact strikes_high A i m h
theorem nth_mid {l : List LLeaf} {off : Int} (h0 : 0 ≤ off) (h1 : off < ((textL l).length : Int)) : ∃ A y B, l = A ++ y :: B ∧ seenB y = true ∧ ((textL A).length : Int) = off := by
  obtain ⟨o, rfl⟩ : ∃ o : Nat, off = (o : Int) := ⟨off.toNat, by omega⟩
  obtain ⟨n, hn, e1, e2, e3⟩ := nth_seen l 0 o (by omega)
  exact ⟨l.take n, l[n], l.drop (n + 1), by rw [List.getElem_cons_drop, List.take_append_drop], e2, by rw [e3]⟩
theorem mid_ahead {A B : List LLeaf} {y : LLeaf} (hr : Rising (A ++ y :: B)) : ahead (A ++ y :: B) y.place = A.length := by
  have := ahead_at hr (n := A.length) (by simp)
  simpa using this
theorem gap_behind {A B : List LLeaf} {y : LLeaf} (hb : BookOk (A ++ y :: B)) : Gap (A ++ [y]) B y.place (rightOf (A ++ y :: B) (A.length + 1)) := by
  refine ⟨fun x hx => ?_, fun x hx => ?_⟩
  · rcases List.mem_append.1 hx with h | h
    · obtain ⟨j, hj, rfl⟩ := List.getElem_of_mem h
      have := rising_lt hb.rising j A.length (by simp; omega) (by simp) hj
      simp [List.getElem_append_left hj] at this
      exact .inr this
    · simp at h; subst h; exact .inl rfl
  · obtain ⟨j, hj, rfl⟩ := List.getElem_of_mem hx
    have hil : A.length + 1 < (A ++ y :: B).length := by simp; omega
    have e : rightOf (A ++ y :: B) (A.length + 1) = (A ++ y :: B)[A.length + 1].place := by unfold rightOf; rw [if_pos hil]; simp only [List.getD, List.getElem?_eq_getElem hil, Option.getD_some]
    have e2 : ∀ i (hi : i < B.length), (A ++ y :: B)[A.length + 1 + i]'(by simp; omega) = B[i] := fun i hi => by
      rw [List.getElem_append_right (by omega)]
      have : A.length + 1 + i - A.length = i + 1 := by omega
      simp [this]
    rw [e]
    refine ⟨by have := (okPlace (hb.leafs _ (List.getElem_mem hil)).place).2.2.1; omega, ?_⟩
    rcases Nat.eq_zero_or_pos j with hj0 | hj0
    · subst hj0
      exact .inl (by rw [← e2 0 hj])
    · right
      rw [← e2 j hj]
      exact rising_lt hb.rising (A.length + 1) (A.length + 1 + j) hil (by simp; omega) (by omega)
theorem LLeaf.gone_letter (y : LLeaf) : y.gone.letter = y.letter := rfl
namespace LDoc
/-- What is struck, and taken back: the text is what it was. -/
theorem back_struck {d0 : LDoc} (hk : d0.Ok) (hs : Says d0.ops d0) {who off : Int} (h0 : 0 ≤ off) (h1 : off < ((textL d0.book).length : Int)) (he : d0.delE who off (off + 1) = 0)
    (hd : d0.doE (d0.delR who off (off + 1)) = 0) (hu : (d0.doR (d0.delR who off (off + 1))).undE who 1 = 0) :
    ((d0.doR (d0.delR who off (off + 1))).undR who 1).length = 1 ∧ ((d0.doR (d0.delR who off (off + 1))).doE ((d0.doR (d0.delR who off (off + 1))).undR who 1) = 0 →
      textL ((d0.doR (d0.delR who off (off + 1))).doR ((d0.doR (d0.delR who off (off + 1))).undR who 1)).book = textL d0.book) := by
  obtain ⟨A, y, B, hl, hy, hA⟩ := nth_mid h0 h1
  have hw : whoE who = 0 := by
    unfold delE at he
    by_cases h : whoE who = 0
    · exact h
    · rw [if_pos h] at he; omega
  have hts : (textOf d0.book).size = (textL d0.book).length := strOf_size _
  have hR : d0.delR who off (off + 1) = [(d0.maker who).put ⟨⟨0, 0⟩, 2, y.place, 0, []⟩] := by
    unfold delR
    rw [if_pos he]
    unfold LMk.del
    rw [if_neg (by omega)]
    dsimp only
    rw [hl, strikes_app, strikes_low A 0 _ (by omega)]
    rw [strikes_cons, if_pos hy, if_pos (by omega), strikes_high B _ _ (by omega)]
    rfl
  rw [hR] at hd hu ⊢
  generalize ho : (d0.maker who).put ⟨⟨0, 0⟩, 2, y.place, 0, []⟩ = o at *
  have o1 : o.dot.who = who := by rw [← ho]; rfl
  have o2 : o.what = 2 := by rw [← ho]; rfl
  have o3 : o.place = y.place := by rw [← ho]; rfl
  have o4 : o.dot.n = nOf d0.known ⟨who, 0⟩ + 1 := by rw [← ho]; rfl
  have hr : Rising (A ++ y :: B) := by rw [← hl]; exact hk.book.rising
  unfold doE at hd
  by_cases h1e : d0.applyE o ≠ 0
  · rw [if_pos h1e] at hd; exact absurd hd h1e
  obtain ⟨q1, q2, q3, q4, q5⟩ := LDoc.apply_new hk (o := o) (by omega) (by rw [nOf_who d0.known (show o.dot.who = (⟨who, 0⟩ : LDot).who from o1), o4]; omega)
  have hbook : (d0.doR [o]).book = A ++ y.gone :: B := by
    unfold doR doR
    rw [if_neg h1e, q5]
    show (d0.turn o).book = _
    unfold turnE at q4
    rw [if_neg (by omega), if_pos o2] at q4
    unfold turn
    rw [if_neg (by omega), if_pos o2, if_pos q4]
    show strikeRes d0.book o.place = _
    rw [o3, hl, strike_mid hr]
  have hops : (d0.doR [o]).ops = d0.ops ++ [o] := by
    unfold doR doR
    rw [if_neg h1e, q5]
  have hk2 := doR_ok [o] hk
  generalize hd2 : d0.doR [o] = d at *
  have hnn : ¬ ((1 : Int) < 0 ∨ 200 < (1 : Int)) := by omega
  obtain ⟨hR2, hT⟩ := und_does hk2 hw hnn hu
  have hlet : y.letter ≠ 0 := by unfold seenB at hy; simp at hy; exact hy.1
  have hstr : y.struck = false := by unfold seenB at hy; simp at hy; exact hy.2
  have hr2 : Rising (A ++ y.gone :: B) := gone_rising (c := B) hr
  obtain ⟨m1, m2⟩ := mid_at hr2
  have hz : strk d0.ops y.place = 0 := by
    unfold strk
    rw [List.length_eq_zero_iff, List.filter_eq_nil_iff]
    intro x hx hh
    simp at hh
    have := (hs.struck y.place).2 ⟨x, hx, hh.1, hh.2⟩
    rw [hl, (mid_at hr).2, hstr] at this
    cases this
  have hone1 : strk d.ops y.place = 1 := by
    rw [hops, strk_app, hz]
    simp [strk, o2, o3]
  have hone : d.unOne ⟨d.book, d.maker who⟩ o = ((unNew ⟨d.book, d.maker who⟩ y.place).1, true, (unNew ⟨d.book, d.maker who⟩ y.place).2) := by
    unfold unOne
    dsimp only
    rw [hbook, o3]
    have m1' : hasAt (A ++ y.gone :: B) y.place = true := m1
    have m2' : old (A ++ y.gone :: B) y.place = y.gone := m2
    rw [m1', m2', if_neg (by rintro (h | h); cases h; exact hlet h), if_neg (by omega), if_pos ⟨o2, rfl, by rw [hone1]; rfl⟩]
  have hgo : d.unGo d.ops.reverse 1 ⟨d.book, d.maker who⟩ = if (unNew ⟨d.book, d.maker who⟩ y.place).2 ≠ 0 then ((unNew ⟨d.book, d.maker who⟩ y.place).1, (unNew ⟨d.book, d.maker who⟩ y.place).2) else ((unNew ⟨d.book, d.maker who⟩ y.place).1, 0) := by
    have e1 : d.ops.reverse = o :: d0.ops.reverse := by rw [hops]; simp
    rw [e1, unGo, if_neg (by omega), if_neg (by show ¬ o.dot.who ≠ who; simp [o1]), hone]
    split
    · rfl
    · rw [if_pos rfl]
      cases d0.ops.reverse with
      | nil => rfl
      | cons x t => rw [unGo, if_pos (by omega)]
  have hu2 := hu
  unfold undE at hu2
  rw [if_neg (by omega), if_neg hnn, hgo] at hu2
  by_cases hne : (unNew ⟨d.book, d.maker who⟩ y.place).2 ≠ 0
  · rw [if_pos hne] at hu2; exact absurd hu2 hne
  rw [hgo, if_neg hne] at hR2 hT
  dsimp only at hR2 hT
  rw [hR2]
  unfold unNew at hne hT ⊢
  dsimp only at hne hT ⊢
  by_cases hbe : betweenErr y.place (rightOf d.book (ahead d.book y.place + 1)) (d.maker who).who ≠ 0
  · rw [if_pos hbe] at hne; exact absurd hbe hne
  rw [if_neg hbe] at hne hT ⊢
  dsimp only at hne hT ⊢
  refine ⟨rfl, fun hdo => ?_⟩
  obtain ⟨b1, _, _⟩ := hT.does hdo
  have hwe : writeErr d.book ((d.maker who).next y.place (rightOf d.book (ahead d.book y.place + 1))) (old d.book y.place).letter = 0 := by omega
  rw [b1]
  dsimp only
  rw [if_pos hwe]
  have hold : old d.book y.place = y.gone := by rw [hbook]; exact m2
  have hah : ahead d.book y.place = A.length := by rw [hbook]; exact mid_ahead hr2
  have hgood := good_of (show betweenErr y.place (rightOf d.book (ahead d.book y.place + 1)) (d.maker who).who = 0 by omega)
  have hgap := gap_behind (A := A) (B := B) (y := y.gone) (by rw [← hbook]; exact hk2.book)
  rw [hold]
  unfold LMk.next
  rw [hah, hbook] at hgood ⊢
  generalize strOf (betweenRes y.place (rightOf (A ++ y.gone :: B) (A.length + 1)) (d.maker who).who) = p at *
  obtain ⟨g1, g2⟩ := hgap.at_ (left := y.gone.place) (p := p) hgood
  have e3 : A ++ y.gone :: B = (A ++ [y.gone]) ++ B := by simp
  rw [e3] at hr2 ⊢
  have hno := gap_none hr2 g1 g2
  rw [write_upd, no_old hno]
  have ew : (⟨p, 0, false⟩ : LLeaf).write y.gone.letter = ⟨p, y.gone.letter, false⟩ := rfl
  rw [ew, upd_gap (x := ⟨p, y.gone.letter, false⟩) hr2 g1 g2, hl]
  have e4 : (A ++ [y.gone]) ++ (⟨p, y.gone.letter, false⟩ : LLeaf) :: B = A ++ ([y.gone] ++ [⟨p, y.gone.letter, false⟩]) ++ B := by simp
  have e5 : A ++ y :: B = A ++ [y] ++ B := by simp
  show textL ((A ++ [y.gone]) ++ (⟨p, y.gone.letter, false⟩ : LLeaf) :: B) = _
  rw [e4, e5, textL_three, textL_three]
  congr 2
  have s1 : seenB y.gone = false := by unfold seenB LLeaf.gone; simp
  have s2 : seenB ⟨p, y.gone.letter, false⟩ = true := by unfold seenB LLeaf.gone; simpa using hlet
  unfold textL
  simp [List.filter_cons, s1, s2, hy]
  rfl
end LDoc
end Go.Proofs.YtngalkmmpjegkaaGreatDoor
/- edit.Delete, walked. Conditions: the document is right; the numbers are of 64 bits. -/
namespace Go.Proofs.YtngalkmmpjegkaaGreatDoor
open Go.RowKit
set_option linter.unusedVariables false
end Go.Proofs.YtngalkmmpjegkaaGreatDoor
/- back.Undo, in one sentence; and its ops done. Conditions: the document is right. -/
namespace Go.Proofs.YtngalkmmpjegkaaGreatDoor
open Go.RowKit
set_option linter.unusedVariables false
namespace LDoc
/-- The undoer's places are short, and its ops are not many. -/
structure Few (n : Nat) (U : LU) : Prop where
  ok : BookOk U.book
  small : ∀ o ∈ U.mak.ops, o.place.size ≤ 12
  len : U.mak.ops.length ≤ n
theorem Few.more {n m : Nat} {U : LU} (h : Few n U) (hm : n ≤ m) : Few m U := ⟨h.ok, h.small, Nat.le_trans h.len hm⟩
theorem Few.put {n : Nat} {U : LU} (h : Few n U) {bk : List LLeaf} (hb : BookOk bk) (o : LOp) (ho : o.place.size ≤ 12) : Few (n + 1) ⟨bk, U.mak.add o⟩ := by
  refine ⟨hb, fun x hx => ?_, ?_⟩
  · rcases List.mem_append.1 (show x ∈ U.mak.ops ++ [U.mak.put o] from hx) with h1 | h1
    · exact h.small x h1
    · simp at h1; subst h1; exact ho
  · show (U.mak.ops ++ [U.mak.put o]).length ≤ _
    have := h.len
    simp; omega
theorem Few.new {n : Nat} {U : LU} (h : Few n U) (p : ByteArray) : Few (n + 1) (unNew U p).1 := by
  have hs := unNew_step (U := U) h.ok p
  unfold unNew at hs ⊢
  split
  · exact h.more (by omega)
  · next hb =>
    rw [if_neg hb] at hs
    exact h.put hs.book _ (place_small (good_of (show betweenErr p (rightOf U.book (ahead U.book p + 1)) U.mak.who = 0 by omega)).check)
theorem Few.one {n : Nat} {U : LU} (h : Few n U) (d : LDoc) (o : LOp) : Few (n + 1) (unOne d U o).1 := by
  unfold unOne
  split
  · exact h.more (by omega)
  · next h0 =>
    have hp : hasAt U.book o.place = true := by
      cases e : hasAt U.book o.place with
      | true => rfl
      | false => exact absurd (.inl e) h0
    split
    · exact h.put (strike_book (strike_zero h.ok (at_place h.ok hp) (.inl hp))) _ (place_small (at_place h.ok hp))
    · split
      · exact h.new _
      · exact h.more (by omega)
theorem Few.go (d : LDoc) : ∀ (l : List LOp) (n : Int) (U : LU) (k : Nat), Few k U → Few (k + l.length) (unGo d l n U).1
  | [], n, U, k => fun h => h
  | o :: t, n, U, k => fun h => by
    unfold unGo
    split
    · exact h.more (by omega)
    · split
      · exact (Few.go d t n U k h).more (by simp)
      · split
        · exact (h.one d o).more (by simp)
        · exact (Few.go d t _ _ (k + 1) (h.one d o)).more (by simp; omega)
theorem undR_few {d : LDoc} (hk : d.Ok) (who n : Int) : (∀ o ∈ d.undR who n, o.place.size ≤ 12) ∧ (d.undR who n).length ≤ 400 := by
  unfold undR
  split
  · have := Few.go d d.ops.reverse n ⟨d.book, d.maker who⟩ 0 ⟨hk.book, by simp [maker], by simp [maker]⟩
    refine ⟨this.small, ?_⟩
    have h1 := this.len
    have h2 := hk.few
    simp at h1
    omega
  · simp
end LDoc
/-- Ops of the call's own are done. -/
theorem do_row {w7 w8 : World} {B b : Nat} {S : List Nat} {st : LDoc} {D : DLay} (h : DocIs w7 B S b st D) (ok : st.Ok) {l : List LOp} (hsm : ∀ o ∈ l, o.place.size ≤ 12) (hlen : l.length ≤ 1000000) {V : Option Addr} {c : Nat} {zs : List OpAt} (hz : zs.map OpAt.op = l) (ho : OwnOps w8 w7.heap.size V c zs) (hb : Below w7.heap.size w7 w8) :
    Calls Tryz.prog 45 #[.pointer (some ⟨b, 0, none⟩), .slice V zs.length c] w8 (fun e w' => e = .returned (errV (st.doE l)) ∧ DocTo w8 B S b (st.doR l) w') := by
  obtain ⟨a1, a2⟩ := ops_apart h (Nat.le_refl _) ho (by rw [hz]; exact hsm)
  have hl : zs.length ≤ 1000000 := by rw [← hz, List.length_map] at hlen; exact hlen
  have := do_any w8 B S b st D (h.below hb) ok V c zs ho.row.reads a1 a2 (by omega)
  rw [hz] at this
  exact this
theorem undo_any (w : World) (B : Nat) (S : List Nat) (b : Nat) (st : LDoc) (D : DLay) (h : DocIs w B S b st D) (ok : st.Ok) (who n : Int) (hw0 : -9223372036854775808 ≤ who) (hw1 : who ≤ 9223372036854775807) :
    Calls Tryz.prog 31 #[.pointer (some ⟨b, 0, none⟩), .int .i64 who, .int .i64 n] w (EditPost w (st.undE who n) (st.undR who n)) := by
  by_cases hw : LDoc.whoE who = 0
  · by_cases hn : n < 0 ∨ 200 < n
    · exact undo_far w B S b st D h ok who n hw0 hw1 hw hn
    · exact undo_good w B S b st D h ok who n hw0 hw1 hw hn
  · exact undo_bad w B S b st D h ok who n hw0 hw1 hw
/-- The document's text, midway in a law: what is below, and the document. -/
structure OneDoc (w : World) (b : Nat) (st : LDoc) (wr : World) : Prop where
  doc : ∃ B S D, w.heap.size ≤ B ∧ DocIs wr B S b st D
  ok : st.Ok
  below : Below w.heap.size w wr
namespace OneDoc
variable {w wr w' : World} {b : Nat} {st : LDoc}
theorem step (h : OneDoc w b st wr) (hb : Below wr.heap.size wr w') : OneDoc w b st w' := by
  obtain ⟨B, S, D, h1, h2⟩ := h.doc
  exact ⟨⟨B, S, D, h1, h2.below hb⟩, h.ok, h.below.trans (hb.mono h.below.size)⟩
theorem drewN (h : OneDoc w b st wr) (n : Nat) : OneDoc w b st (wr.drewN n) := h.step (below_drewN (Below.refl _ _) n)
theorem new (wr : World) (hb : Below w.heap.size w wr) : Calls Tryz.prog 26 #[] wr (fun e w' => ∃ b, e = .returned (.pointer (some ⟨b, 0, none⟩)) ∧ OneDoc w b LDoc.new w') :=
  (new_doc wr).mono fun e w' ⟨b, S, D, h1, h2, h3⟩ => ⟨b, h1, ⟨⟨_, S, D, hb.size, h2⟩, LDoc.new_ok, hb.trans (h3.mono hb.size)⟩⟩
/-- Ops that an edit gave. -/
def Row (w : World) (b : Nat) (st : LDoc) (l : List LOp) (V : Option Addr) (c : Nat) (k : Nat) (wr : World) : Prop :=
  ∃ zs : List OpAt, zs.length = k ∧ zs.map OpAt.op = l ∧ ∃ w7 B S D, w.heap.size ≤ B ∧ DocIs w7 B S b st D ∧ OwnOps wr w7.heap.size V c zs ∧ Below w7.heap.size w7 wr ∧ Below w.heap.size w w7
theorem of_post {k : Int} {l : List LOp} {e : Ending} (h : OneDoc w b st wr) (hp : EditPost wr k l e w') : ∃ V c, e = .returned (.tuple #[.slice V l.length c, errV k]) ∧ Row w b st l V c l.length w' ∧ OneDoc w b st w' := by
  obtain ⟨V, c, zs, rfl, h1, h2, h3⟩ := hp
  have hl : zs.length = l.length := by rw [← h1, List.length_map]
  obtain ⟨B, S, D, g1, g2⟩ := h.doc
  exact ⟨V, c, by rw [hl], ⟨zs, hl, h1, wr, B, S, D, g1, g2, h2, h3, h.below⟩, h.step h3⟩
theorem ins (h : OneDoc w b st wr) (who off : Int) (text : ByteArray) (hw0 : -9223372036854775808 ≤ who) (hw1 : who ≤ 9223372036854775807) (ho : off ≤ 9223372036854775807) (ht : text.size ≤ 9223372036854775807) :
    Calls Tryz.prog 44 #[.pointer (some ⟨b, 0, none⟩), .int .i64 who, .int .i64 off, .string text] wr (fun e w' => ∃ V c, e = .returned (.tuple #[.slice V (st.insR who off text).length c, errV (st.insE who off text)]) ∧ Row w b st (st.insR who off text) V c (st.insR who off text).length w' ∧ OneDoc w b st w') := by
  obtain ⟨B, S, D, g1, g2⟩ := h.doc
  exact (insert_any wr B S b st D g2 h.ok who off text hw0 hw1 ho ht).mono fun e w' hp => h.of_post hp
theorem und (h : OneDoc w b st wr) (who n : Int) (hw0 : -9223372036854775808 ≤ who) (hw1 : who ≤ 9223372036854775807) :
    Calls Tryz.prog 31 #[.pointer (some ⟨b, 0, none⟩), .int .i64 who, .int .i64 n] wr (fun e w' => ∃ V c, e = .returned (.tuple #[.slice V (st.undR who n).length c, errV (st.undE who n)]) ∧ Row w b st (st.undR who n) V c (st.undR who n).length w' ∧ OneDoc w b st w') := by
  obtain ⟨B, S, D, g1, g2⟩ := h.doc
  exact (undo_any wr B S b st D g2 h.ok who n hw0 hw1).mono fun e w' hp => h.of_post hp
/-- They are done. -/
theorem do_ {l : List LOp} {V : Option Addr} {c k : Nat} (h : OneDoc w b st wr) (hr : Row w b st l V c k wr) (hsm : ∀ o ∈ l, o.place.size ≤ 12) (hlen : l.length ≤ 1000000) :
    Calls Tryz.prog 45 #[.pointer (some ⟨b, 0, none⟩), .slice V k c] wr (fun e w' => e = .returned (errV (st.doE l)) ∧ OneDoc w b (st.doR l) w') := by
  obtain ⟨zs, rfl, hz, w7, B, S, D, g1, g2, g3, g4, g5⟩ := hr
  refine (do_row g2 h.ok hsm hlen hz g3 g4).mono ?_
  rintro e w' ⟨rfl, S', D', q1, q2, q3⟩
  have hs := g4.size
  exact ⟨rfl, ⟨⟨B, S', D', g1, q1⟩, LDoc.doR_ok _ h.ok, h.below.trans (q2.below h.below.size (fun g hg => by have := (g2.own g hg).1; omega))⟩⟩
theorem text (h : OneDoc w b st wr) : Calls Tryz.prog 12 #[.pointer (some ⟨b, 0, none⟩)] wr (fun e w' => e = .returned (.string (textOf st.book)) ∧ OneDoc w b st w') := by
  obtain ⟨B, S, D, g1, g2⟩ := h.doc
  exact (text_doc wr _ _ _ _ _ g2 h.ok).mono fun e w' ⟨h1, h2⟩ => ⟨h1, h.step h2⟩
theorem of_at {B n : Nat} (h : DocAt w B b n wr) (hB : w.heap.size ≤ B) : ∃ st, OneDoc w b st wr ∧ Says st.ops st ∧ Numbered st.ops ∧ st.ops.length ≤ n := by
  obtain ⟨st, S, D, h1, h2, h3, h4, h5, h6⟩ := h
  exact ⟨st, ⟨⟨B, S, D, hB, h1⟩, h2, h6⟩, h3, h4, h5⟩
end OneDoc
theorem delR_few {d : LDoc} (hk : d.Ok) {who a b : Int} : (∀ o ∈ d.delR who a b, o.place.size ≤ 12) ∧ (d.delR who a b).length ≤ 400 := by
  have key : ∀ (l : List LLeaf) (i : Int) (m : LMk), (∀ x ∈ l, x.place.size ≤ 12) → (∀ o ∈ m.ops, o.place.size ≤ 12) → (∀ o ∈ (LMk.strikes a b l i m).ops, o.place.size ≤ 12) ∧ (LMk.strikes a b l i m).ops.length ≤ m.ops.length + l.length := by
    intro l
    induction l with
    | nil => intro i m _ h; exact ⟨h, by simp [LMk.strikes]⟩
    | cons x l ih =>
      intro i m hl h
      unfold LMk.strikes
      split
      · split
        · obtain ⟨q1, q2⟩ := ih (i + 1) (m.st x.place) (fun y hy => hl y (by simp [hy])) (fun o ho => by
            rcases List.mem_append.1 (show o ∈ m.ops ++ [m.put ⟨⟨0, 0⟩, 2, x.place, 0, []⟩] from ho) with h1 | h1
            · exact h o h1
            · simp at h1; subst h1; exact hl x (by simp))
          refine ⟨q1, Nat.le_trans q2 ?_⟩
          show (m.ops ++ [_]).length + l.length ≤ _
          simp; omega
        · obtain ⟨q1, q2⟩ := ih (i + 1) m (fun y hy => hl y (by simp [hy])) h
          exact ⟨q1, Nat.le_trans q2 (by simp)⟩
      · obtain ⟨q1, q2⟩ := ih i m (fun y hy => hl y (by simp [hy])) h
        exact ⟨q1, Nat.le_trans q2 (by simp)⟩
  unfold LDoc.delR
  split
  · unfold LMk.del
    split
    · simp [LDoc.maker]
    · obtain ⟨q1, q2⟩ := key d.book 0 (d.maker who) (fun x hx => place_small (hk.book.leafs x hx).place) (by simp [LDoc.maker])
      refine ⟨q1, Nat.le_trans q2 ?_⟩
      have := hk.book.few
      simp [LDoc.maker]
      omega
  · simp
end Go.Proofs.YtngalkmmpjegkaaGreatDoor
/- From a walk to a given statement: one theorem that serves every law of the seat. Conditions: none of our own. -/
namespace Go.Proofs.YtngalkmmpjegkaaGreatDoor
open Go.RowKit Go.WideShapes Go.ChangeShapes Go.ChangeAt
set_option linter.unusedVariables false

section
variable {H : Type} {enc : TypeId × Value → H} {P : Program}

theorem post_of_below {f : Func} {s : ChangeSpec} {apart fresh handsOn again : Bool} {W W' : World} {args : Array Value} {v : Value} {ds gs : List (DataW H)} {before pa pv : List MemPlace}
    (hW : DataW.Whole enc P f.params.toList s.vars apart W args.toList ds gs before)
    (hres : ∀ (b : Nat) (sp : Nat → Bool) (hd : Bool), DataW.TrodAll enc P W' b sp hd f.resultTypes.toList (v.resultList f.resultTypes.size) (s.fn H (ds ++ gs)).results [])
    (hargs : ∀ sp : Nat → Bool, (∀ p ∈ before, sp p.block = true) → DataW.TrodAll enc P W' 0 sp true f.params.toList args.toList (s.fn H (ds ++ gs)).args pa)
    (hvars : ∀ sp : Nat → Bool, (∀ p ∈ before, sp p.block = true) → DataW.TrodVars enc P W' sp s.vars (s.fn H (ds ++ gs)).vars pv)
    (hps : before = pa ++ pv) (hb : Below W.heap.size W W')
    (hok : ∀ (j : Nat) (t : TypeId) (r : Value), f.resultTypes[j]? = some t → (v.resultList f.resultTypes.size)[j]? = some r → Value.okWide P W' .any 0 t r) :
    s.post enc P f apart fresh handsOn again W args v W' := by
  have hlt : ∀ p ∈ before, p.block < W.heap.size := fun p hp => hW.lt p hp
  have hold : ∀ p ∈ before, (fun b => decide (b < W.heap.size)) p.block = true := fun p hp => by simpa using hlt p hp
  refine ⟨ds, gs, before, [], pa, pv, hW, hres _ _ _, hargs _ hold, hvars _ hold, World.keptBut_mono (fun p hp => ⟨hp, ?_⟩) (hb.frame (· ∈ before)), fun _ => ?_⟩
  · rw [hps, List.mem_append] at hp
    exact Or.inr hp
  · obtain ⟨_, _, _, _, _, hz, hn⟩ := hW
    refine ⟨hok, _, _, ([] ++ pa) ++ pv, ⟨[] ++ pa, pv, trodAll_append (hargs _ (fun _ _ => rfl)) (hres _ _ _), hvars _ (fun _ _ => rfl), rfl, ?_, ?_⟩, ?_⟩
    · intro b off hp
      have hin : MemPlace.cell b off ∈ before := by rw [hps]; simpa using hp
      rw [hb.frozen (hlt _ hin)]
      exact hz b off hin
    · intro ha
      have := hn ha
      rw [hps] at this
      simpa using this
    · intro p hp _
      rw [hps]
      simpa using hp

theorem trodAll_below (hl : laidOutB P = true) {W W' : World} (hb : Below W.heap.size W W') {sp : Nat → Bool} :
    ∀ (ts : List TypeId) (vs : List Value) (ds : List (DataW H)) (ps : List MemPlace), (∀ t ∈ ts, P.readableRec t = true ∧ t < P.types.size) → (∀ p ∈ ps, p.block < W.heap.size) → (∀ p ∈ ps, sp p.block = true) →
      DataW.TrodAll enc P W 0 (fun _ => true) true ts vs ds ps → DataW.TrodAll enc P W' 0 sp true ts vs ds ps := by
  intro ts
  induction ts with
  | nil => intro vs ds ps _ _ _ h; cases vs <;> cases ds <;> simp_all [DataW.TrodAll]
  | cons t ts ih =>
    intro vs ds ps ht hlt hs h
    cases vs with
    | nil => simp [DataW.TrodAll] at h
    | cons v vs =>
      cases ds with
      | nil => simp [DataW.TrodAll] at h
      | cons d ds =>
        obtain ⟨p, q, h1, h2, rfl⟩ := h
        exact ⟨p, q, WideElems.Trod_stays hl (ht t (by simp)).1 (ht t (by simp)).2 h1 (fun x hx => hb.same (hlt x (by simp [hx]))) (fun x hx => hs x (by simp [hx])),
          ih vs ds q (fun t' h' => ht t' (by simp [h'])) (fun x hx => hlt x (by simp [hx])) (fun x hx => hs x (by simp [hx])) h2, rfl⟩

/-- A law: it answered true, and nothing that was there has turned. -/
theorem law_post (hl : laidOutB P = true) {f : Func} {s : ChangeSpec} {apart fresh handsOn again : Bool} {tb : TypeId} {W W' : World} {args : Array Value} {ds gs : List (DataW H)} {before : List MemPlace}
    (hr : f.resultTypes = #[tb]) (htb : P.underlying tb = some .bool) (hp : ∀ t ∈ f.params.toList, P.readableRec t = true ∧ t < P.types.size) (hv : s.vars = [])
    (hfn : s.fn H ds = { results := [.lit (.bool true)], args := ds })
    (hW : DataW.Whole enc P f.params.toList s.vars apart W args.toList ds gs before) (hb : Below W.heap.size W W') :
    s.post enc P f apart fresh handsOn again W args (.bool true) W' := by
  have hW' := hW
  obtain ⟨p, q, hA, hV, hpq, hfz, hnd⟩ := hW
  have hlt : ∀ x ∈ before, x.block < W.heap.size := fun x hx => hW'.lt x hx
  rw [hv] at hV
  obtain ⟨hgs, hq⟩ := trodVars_none hV
  subst hgs; subst hq
  simp only [List.append_nil] at hpq
  subst hpq
  refine post_of_below (pa := before) (pv := []) hW' ?_ ?_ ?_ (by simp) hb ?_
  · intro b sp hd
    rw [List.append_nil, hfn, hr]
    exact trodAll_mk1 (shut_bool htb _)
  · intro sp hs
    rw [List.append_nil, hfn]
    exact trodAll_below hl hb _ _ _ _ hp hlt hs hA
  · intro sp hs
    rw [List.append_nil, hfn, hv]
    exact rfl
  · exact ok_one hr rfl (okWide_bool_mk htb _)
end

theorem Tryz.own : ownKnob Tryz.prog.godebug = none := by kernel_rfl
theorem Tryz.laidOut : laidOutB Tryz.prog = true := by kernel_rfl
end Go.Proofs.YtngalkmmpjegkaaGreatDoor
/- errors.As at an Errno. Conditions: the library's one variable holds what its text lays. (After the guide's worked toy on errors.As.) -/
namespace Go.Proofs.YtngalkmmpjegkaaGreatDoor
open Go.RowKit Go.Extern.Stop Go.Stop Go.Extern
set_option linter.unusedVariables false
namespace As

theorem valueOfP (t : Addr) (w : World) : (ReflectliteValue.unpack (.iface 166 (.pointer (some t)))).run Tryz.prog w
    = .ok (.agg #[.pointer (some ⟨2, 166, none⟩), .pointer (some ⟨w.heap.size, 0, none⟩), .int .u64 150]) (w.alloc (.cells #[.pointer (some t)] 166)) := by kernel_rfl
theorem typeP (a : Addr) (w : World) : (ReflectliteValue.methodAny (ReflectliteValue.valueError "reflectlite.Value.Type" 0) (fun t _ _ _ => ReflectliteType.toType t) #[.agg #[.pointer (some ⟨2, 166, none⟩), .pointer (some a), .int .u64 150]]).run Tryz.prog w
    = .ok (.iface 227 (.agg #[.pointer (some ⟨2, 166, none⟩)])) w := by kernel_rfl
theorem kindP (w : World) : ((ReflectliteType.abiMethod fun t => (fun a : Nat => Value.int IntKind.u8 (a : Int)) <$> Rtype.kind t) #[.pointer (some ⟨2, 166, none⟩)]).run Tryz.prog w = .ok (.int .u8 22) w := by kernel_rfl
theorem kindE (w : World) : ((ReflectliteType.abiMethod fun t => (fun a : Nat => Value.int IntKind.u8 (a : Int)) <$> Rtype.kind t) #[.pointer (some ⟨2, 90, none⟩)]).run Tryz.prog w = .ok (.int .u8 2) w := by kernel_rfl
theorem rlm (z : Sem Value) (f : TypeId → Addr → Nat → Nat → Sem Value) (v : Value) :
    ReflectliteValue.method z f #[v] = (do match ← ReflectliteValue.parts v with | none => z | some (t, a, fl) => f t a fl (fl % 32)) := rfl
theorem partsP (a : Addr) (w : World) : (ReflectliteValue.parts (.agg #[.pointer (some ⟨2, 166, none⟩), .pointer (some a), .int .u64 150])).run Tryz.prog w = .ok (some (166, a, 150)) w := by kernel_rfl
theorem isNilP (a p : Addr) (W : World) (ha : W.cell? a = some (.pointer (some p))) :
    (ReflectliteValue.method (ReflectliteValue.valueError "reflectlite.Value.IsNil" 0) ReflectliteValue.isNil #[.agg #[.pointer (some ⟨2, 166, none⟩), .pointer (some a), .int .u64 150]]).run Tryz.prog W = .ok (.bool false) W := by
  rw [rlm]
  simp only [Sem.run_bind, partsP, Result.andThen]
  simp [ReflectliteValue.isNil, loadVar, isAgg, underlying, Tryz.underlying166, ha, Result.andThen]
theorem elemP (w : World) : (ReflectliteType.method ReflectliteType.elem #[.agg #[.pointer (some ⟨2, 166, none⟩)]]).run Tryz.prog w = .ok (.iface 227 (.agg #[.pointer (some ⟨2, 90, none⟩)])) w := by kernel_rfl
theorem implementsE (w : World) : (ReflectliteType.relation "Implements" ReflectliteType.implements_ #[.agg #[.pointer (some ⟨2, 90, none⟩)], .iface 227 (.agg #[.pointer (some ⟨2, 32, none⟩)])]).run Tryz.prog w = .ok (.bool true) w := by kernel_rfl
theorem typeOfE (v : Value) (w : World) : (ReflectliteType.typeOf #[.iface 90 v]).run Tryz.prog w = .ok (.iface 227 (.agg #[.pointer (some ⟨2, 90, none⟩)])) w := by kernel_rfl
theorem assignableE (w : World) : (ReflectliteType.relation "AssignableTo" ReflectliteType.assignableTo #[.agg #[.pointer (some ⟨2, 90, none⟩)], .iface 227 (.agg #[.pointer (some ⟨2, 90, none⟩)])]).run Tryz.prog w = .ok (.bool true) w := by kernel_rfl
theorem valueOfE (n : Int) (w : World) : (ReflectliteValue.unpack (.iface 90 (.int .i64 n))).run Tryz.prog w
    = .ok (.agg #[.pointer (some ⟨2, 90, none⟩), .pointer (some ⟨w.heap.size, 0, none⟩), .int .u64 130]) (w.alloc (.cells #[.int .i64 n] 90)) := by kernel_rfl
theorem elemOfP (w : World) : (Rtype.elem? 166).run Tryz.prog w = .ok (some 90) w := by kernel_rfl
theorem mkE (p : Addr) (w : World) : (ReflectliteValue.mk 90 p ReflectliteValue.flagAddr).run Tryz.prog w = .ok (.agg #[.pointer (some ⟨2, 90, none⟩), .pointer (some p), .int .u64 386]) w := by kernel_rfl
theorem elemVP (a p : Addr) (W : World) (ha : W.cell? a = some (.pointer (some p))) :
    (ReflectliteValue.method (ReflectliteValue.valueError "reflectlite.Value.Elem" 0) ReflectliteValue.elem #[.agg #[.pointer (some ⟨2, 166, none⟩), .pointer (some a), .int .u64 150]]).run Tryz.prog W
      = .ok (.agg #[.pointer (some ⟨2, 90, none⟩), .pointer (some p), .int .u64 386]) W := by
  rw [rlm]
  simp only [Sem.run_bind, partsP, Result.andThen]
  simp [ReflectliteValue.elem, loadVar, isAgg, underlying, Tryz.underlying166, ha, Result.andThen, elemOfP, mkE]
theorem methodKind (k : Nat) (h : Value) (w : World) : (Go.method (k + 3) 227 (.agg #[h]) "Kind").run Tryz.prog w = .ok (195, h) w := by kernel_rfl
theorem methodElem (k : Nat) (h : Value) (w : World) : (Go.method (k + 3) 227 (.agg #[h]) "Elem").run Tryz.prog w = .ok (205, .agg #[h]) w := by kernel_rfl
theorem methodImplements (k : Nat) (h : Value) (w : World) : (Go.method (k + 3) 227 (.agg #[h]) "Implements").run Tryz.prog w = .ok (206, .agg #[h]) w := by kernel_rfl
theorem methodAssignableTo (k : Nat) (h : Value) (w : World) : (Go.method (k + 3) 227 (.agg #[h]) "AssignableTo").run Tryz.prog w = .ok (203, .agg #[h]) w := by kernel_rfl
theorem partsEa (a : Addr) (w : World) : (ReflectliteValue.parts (.agg #[.pointer (some ⟨2, 90, none⟩), .pointer (some a), .int .u64 386])).run Tryz.prog w = .ok (some (90, a, 386)) w := by kernel_rfl
theorem partsE (a : Addr) (w : World) : (ReflectliteValue.parts (.agg #[.pointer (some ⟨2, 90, none⟩), .pointer (some a), .int .u64 130])).run Tryz.prog w = .ok (some (90, a, 130)) w := by kernel_rfl
theorem set_run (ta b : Addr) (W : World) :
    (ReflectliteValue.set #[.agg #[.pointer (some ⟨2, 90, none⟩), .pointer (some ta), .int .u64 386], .agg #[.pointer (some ⟨2, 90, none⟩), .pointer (some b), .int .u64 130]]).run Tryz.prog W
      = (do let val ← loadVar 90 b; storeVar 90 ta val; pure (.tuple #[]) : Sem Value).run Tryz.prog W := by kernel_rfl
theorem setE (ta b : Addr) (n : Int) (old : Value) (W : World) (hb : W.cell? b = some (.int .i64 n)) (ht : W.cell? ta = some old) (hf : W.frozen? ta = false) :
    (ReflectliteValue.set #[.agg #[.pointer (some ⟨2, 90, none⟩), .pointer (some ta), .int .u64 386], .agg #[.pointer (some ⟨2, 90, none⟩), .pointer (some b), .int .u64 130]]).run Tryz.prog W
      = .ok (.tuple #[]) (W.setCell ta (.int .i64 n)) := by
  rw [set_run]
  simp only [Sem.run_bind]
  simp [loadVar, isAgg, underlying, Tryz.underlying90, hb, Result.andThen, storeVar, Value.cells, storeCells, Addr.add]
  rw [run_store Tryz.prog W ta _ _ (by rfl)]
  simp [ht, hf]
theorem as_nil (t : Value) (w : World) : Calls Tryz.prog 95 #[.nilIface, t] w fun e w' => e = .returned (.bool false) ∧ w' = w := by
  go_enter Tryz.func95, Tryz.ntmps95
  go_wp2
  go_ret
  exact ⟨rfl, rfl⟩

set_option maxRecDepth 100000 in
set_option maxHeartbeats 4000000 in
theorem as_hit (n : Int) (t : Addr) (old : Value) (w : World) (hg : w.cell? ⟨0, 0, none⟩ = some (.iface 227 (.agg #[.pointer (some ⟨2, 32, none⟩)]))) (ht0 : w.cell? t = some old) (hf0 : w.frozen? t = false) :
    Calls Tryz.prog 95 #[.iface 90 (.int .i64 n), .iface 166 (.pointer (some t))] w fun ev w' => ev = .returned (.bool true) ∧ w' = ((((w.alloc (.cells #[.pointer (some t)] 166)).alloc (.cells #[.pointer (some ⟨2, 166, none⟩), .pointer (some ⟨w.heap.size, 0, none⟩), .int .u64 150] 200)).alloc (.cells #[.pointer (some ⟨2, 166, none⟩), .pointer (some ⟨w.heap.size, 0, none⟩), .int .u64 150] 200)).alloc (.cells #[.int .i64 n] 90)).setCell t (.int .i64 n) := by
  have hVO := @run_callFunc_extern Tryz.prog 127 _ (fun args => ReflectliteValue.unpack (args.getD 0 (.tuple #[]))) Tryz.func127 (by kernel_rfl) (by kernel_rfl) (by kernel_rfl) (by kernel_rfl)
  have hTy := @run_callFunc_extern Tryz.prog 128 _ (ReflectliteValue.methodAny (ReflectliteValue.valueError "reflectlite.Value.Type" 0) (fun t _ _ _ => ReflectliteType.toType t)) Tryz.func128 (by kernel_rfl) (by kernel_rfl) (by kernel_rfl) (by kernel_rfl)
  have hNi := @run_callFunc_extern Tryz.prog 129 _ (ReflectliteValue.method (ReflectliteValue.valueError "reflectlite.Value.IsNil" 0) ReflectliteValue.isNil) Tryz.func129 (by kernel_rfl) (by kernel_rfl) (by kernel_rfl) (by kernel_rfl)
  have hKi := @run_callFunc_extern Tryz.prog 195 _ (ReflectliteType.abiMethod fun t => do pure (.int .u8 (← Rtype.kind t))) Tryz.func195 (by kernel_rfl) (by kernel_rfl) (by kernel_rfl) (by kernel_rfl)
  have hEl := @run_callFunc_extern Tryz.prog 205 _ (ReflectliteType.method ReflectliteType.elem) Tryz.func205 (by kernel_rfl) (by kernel_rfl) (by kernel_rfl) (by kernel_rfl)
  have hIm := @run_callFunc_extern Tryz.prog 206 _ (ReflectliteType.relation "Implements" ReflectliteType.implements_) Tryz.func206 (by kernel_rfl) (by kernel_rfl) (by kernel_rfl) (by kernel_rfl)
  have hTO := @run_callFunc_extern Tryz.prog 147 _ ReflectliteType.typeOf Tryz.func147 (by kernel_rfl) (by kernel_rfl) (by kernel_rfl) (by kernel_rfl)
  have hAs := @run_callFunc_extern Tryz.prog 203 _ (ReflectliteType.relation "AssignableTo" ReflectliteType.assignableTo) Tryz.func203 (by kernel_rfl) (by kernel_rfl) (by kernel_rfl) (by kernel_rfl)
  have hVE := @run_callFunc_extern Tryz.prog 148 _ (ReflectliteValue.method (ReflectliteValue.valueError "reflectlite.Value.Elem" 0) ReflectliteValue.elem) Tryz.func148 (by kernel_rfl) (by kernel_rfl) (by kernel_rfl) (by kernel_rfl)
  have hVS := @run_callFunc_extern Tryz.prog 149 _ ReflectliteValue.set Tryz.func149 (by kernel_rfl) (by kernel_rfl) (by kernel_rfl) (by kernel_rfl)
  have tO := typeOfE
  have a25 := assignableE
  have v25 := valueOfE
  have f6 := valueOfP
  have f7 := typeP
  have mK := methodKind
  have mE := methodElem
  have mI := methodImplements
  have mA := methodAssignableTo
  have k27 := kindP
  have k25 := kindE
  have e27 := elemP
  have i25 := implementsE
  have n8 := isNilP ⟨w.heap.size, 0, none⟩ t ((w.alloc (.cells #[.pointer (some t)] 166)).alloc (.cells #[.pointer (some ⟨2, 166, none⟩), .pointer (some ⟨w.heap.size, 0, none⟩), .int .u64 150] 200)) (by simp)
  have hlt : 0 < w.heap.size := by
    rcases Nat.eq_zero_or_pos w.heap.size with h0 | h
    · simp [World.cell?, h0] at hg
    · exact h
  have hg2 : ((w.alloc (.cells #[.pointer (some t)] 166)).alloc (.cells #[.pointer (some ⟨2, 166, none⟩), .pointer (some ⟨w.heap.size, 0, none⟩), .int .u64 150] 200)).cell? ⟨0, 0, none⟩ = some (.iface 227 (.agg #[.pointer (some ⟨2, 32, none⟩)])) := by
    rw [World.cell?_alloc_lt _ _ ⟨0, 0, none⟩ (by simp), World.cell?_alloc_lt _ _ ⟨0, 0, none⟩ hlt]; exact hg
  have htl : t.block < w.heap.size := by
    rcases Nat.lt_or_ge t.block w.heap.size with h | h
    · exact h
    · simp [World.cell?, Array.getElem?_eq_none h] at ht0
  have el := elemVP ⟨w.heap.size, 0, none⟩ t (((w.alloc (.cells #[.pointer (some t)] 166)).alloc (.cells #[.pointer (some ⟨2, 166, none⟩), .pointer (some ⟨w.heap.size, 0, none⟩), .int .u64 150] 200)).alloc (.cells #[.pointer (some ⟨2, 166, none⟩), .pointer (some ⟨w.heap.size, 0, none⟩), .int .u64 150] 200)) (by rw [World.cell?_alloc_lt _ _ ⟨w.heap.size, 0, none⟩ (by simp; omega)]; simp)
  have st := setE t ⟨w.heap.size + 1 + 1 + 1, 0, none⟩ n old ((((w.alloc (.cells #[.pointer (some t)] 166)).alloc (.cells #[.pointer (some ⟨2, 166, none⟩), .pointer (some ⟨w.heap.size, 0, none⟩), .int .u64 150] 200)).alloc (.cells #[.pointer (some ⟨2, 166, none⟩), .pointer (some ⟨w.heap.size, 0, none⟩), .int .u64 150] 200)).alloc (.cells #[.int .i64 n] 90))
    (by rw [World.cell?_alloc_at _ _ _ _ (by simp)]; rfl)
    (by rw [World.cell?_alloc_lt _ _ t (by simp; omega), World.cell?_alloc_lt _ _ t (by simp; omega), World.cell?_alloc_lt _ _ t (by simp; omega), World.cell?_alloc_lt _ _ t htl]; exact ht0)
    (by rw [World.frozen?_alloc_old _ _ t (by simp; omega), World.frozen?_alloc_old _ _ t (by simp; omega), World.frozen?_alloc_old _ _ t (by simp; omega), World.frozen?_alloc_old _ _ t (Nat.ne_of_lt htl)]; exact hf0)
  go_enter Tryz.func95, Tryz.ntmps95
  go_wp2
  refine wp_loop_rounds 1 ?_
  rw [rounds_succ]
  go_wp2
  go_ret
  exact ⟨rfl, rfl⟩
end As
end Go.Proofs.YtngalkmmpjegkaaGreatDoor
/- plain.Told, leafsame.Error: the number of an error. Conditions: the library's one variable holds what its text lays. -/
namespace Go.Proofs.YtngalkmmpjegkaaGreatDoor
open Go.RowKit
set_option linter.unusedVariables false

/-- The library's one variable holds what its text lays. -/
def Glob (w : World) : Prop := w.cell? ⟨0, 0, none⟩ = some (.iface 227 (.agg #[.pointer (some ⟨2, 32, none⟩)]))
theorem Glob.lt {w : World} (h : Glob w) : 0 < w.heap.size := by
  rcases Nat.lt_or_ge 0 w.heap.size with h1 | h1
  · exact h1
  · unfold Glob at h; simp [World.cell?, Array.getElem?_eq_none h1] at h
theorem Glob.below {w w' : World} (h : Glob w) {B : Nat} (hb : Below B w w') (hB : w.heap.size ≤ B) : Glob w' := (hb.cell (p := ⟨0, 0, none⟩) (Nat.lt_of_lt_of_le h.lt hB)).trans h
theorem Glob.alloc {w : World} (h : Glob w) (o : Obj) : Glob (w.alloc o) := h.below ((Below.refl _ _).alloc (Nat.le_refl _) _) (Nat.le_refl _)

set_option maxRecDepth 100000 in
set_option maxHeartbeats 1000000 in
theorem told_any (w : World) (k : Int) (hg : Glob w) : Calls Tryz.prog 55 #[errV k] w (CheckPost w (.int .i64 k)) := by
  by_cases h : k = 0
  · subst h
    rw [show errV 0 = .nilIface from rfl]
    go_enter Tryz.func55, Tryz.ntmps55
    go_wp2_with fail
    go_ret
    exact ⟨rfl, Below.refl _ _⟩
  · rw [errV_ne h]
    have HA := Lib.hid (As.as_hit k ⟨w.heap.size, 0, none⟩ (.int .i64 0) (w.alloc (.cells #[.int .i64 0] 90)) (hg.alloc _) (by simp) (by simp))
    have hsz : w.heap.size < w.heap.size + 1 := by omega
    clear h hg
    go_enter Tryz.func55, Tryz.ntmps55
    go_wp2_with fail
    refine HA.out.mono ?_
    rintro e w1 ⟨rfl, hw1⟩
    have hc : w1.cell? ⟨w.heap.size, 0, none⟩ = some (.int .i64 k) := by
      rw [hw1]
      refine World.cell?_setCell_same _ _ _ (u := .int .i64 0) ?_
      rw [World.cell?_alloc_lt _ _ _ (by simp; omega), World.cell?_alloc_lt _ _ _ (by simp; omega), World.cell?_alloc_lt _ _ _ (by simp; omega), World.cell?_alloc_lt _ _ _ (by simp)]
      simp
    have hb : Hid (Below w.heap.size w w1) := by
      show Below _ _ _
      rw [hw1]
      exact (((((((Below.refl _ _).alloc (Nat.le_refl _) _).alloc (by simp) _).alloc (by simp; omega) _).alloc (by simp; omega) _).alloc (by simp; omega) _).setCell (by simp) _)
    clear hw1 HA
    go_wp2_with fail
    go_ret
    exact ⟨rfl, hb.out⟩
set_option maxRecDepth 100000 in
theorem error_any (w : World) (k e : Int) (hg : Glob w) : Calls Tryz.prog 19 #[errV k, .int .i64 e] w (CheckPost w (.bool (k == e))) := by
  have HT := Lib.hid (told_any w k hg)
  clear hg
  go_enter Tryz.func19, Tryz.ntmps19
  go_wp2_with fail
  refine HT.out.mono ?_
  rintro e1 w1 ⟨rfl, hb⟩
  go_wp2_with fail
  go_ret
  exact ⟨rfl, hb⟩
end Go.Proofs.YtngalkmmpjegkaaGreatDoor
/- From a walk to a tied card: what serves every law of a seat whose rows list the library's one variable. Conditions: none of our own. (After the guide's worked toy on errors.As.) -/
namespace Go.Proofs.YtngalkmmpjegkaaGreatDoor
open Go.ChangeShapes Go.WideShapes Go.RowKit
set_option linter.unusedVariables false
namespace Card

/-- What the rows list. -/
def laid : List (String × DataW Unit) := [("errors.errorType", Rows.laid_errors_errorType)]
theorem et : Tryz.prog.globalNamed "errors.errorType" = some 0 := by kernel_rfl
theorem rt : (Tryz.prog.cutTypes.find? (·.1 == "internal/reflectlite.rtype")).map (·.2) = some 227 := by kernel_rfl
theorem oneRow : ((List.range Tryz.prog.types.size).filter fun t => Tryz.prog.rowNamed t [101, 114, 114, 111, 114]) = [32] := by kernel_rfl
theorem handle : typeHandle Tryz.prog 32 = .pointer (some ⟨2, 32, none⟩) := by kernel_rfl
/-- What the condition gives a walk: the variable's one cell. -/
theorem glob_of_laid {W : World} (h : laidMetH Tryz.prog laid W) : Glob W := by
  have h' : laidMet Tryz.prog [] W ∧ handlesMet Tryz.prog laid W := h
  obtain ⟨name, u, ty, e1, e2, e3, e4, e5⟩ := h'.2 _ (List.mem_singleton.2 rfl)
  have en : name = [101, 114, 114, 111, 114] := (Option.some.inj e1).symm
  subst en
  obtain rfl := Option.some.inj (rt.symm.trans e2)
  have hm : ty ∈ (List.range Tryz.prog.types.size).filter fun t => Tryz.prog.rowNamed t [101, 114, 114, 111, 114] := List.mem_filter.2 ⟨List.mem_range.2 e3, e4⟩
  rw [oneRow] at hm
  obtain rfl := List.mem_singleton.1 hm
  rw [handle] at e5
  unfold Glob
  simpa using World.var?_cell et e5 0
/-- A world that meets the condition: the settled one, the variable's cell laid. -/
noncomputable def laidWorld (os : Os) : World :=
  let w0 := World.holding Tryz.prog os ⟨#[], #[], []⟩
  { w0 with heap := w0.heap.modify 0 fun
      | .cells _ t frozen => .cells #[.iface 227 (.agg #[.pointer (some ⟨2, 32, none⟩)])] t frozen
      | o => o }
theorem laidWorld_met (os : Os) (args : Array Value) : laidMetH Tryz.prog laid ((laidWorld os).forCall (fun _ _ => 0) ⟨#[], args, []⟩).memory :=
  laidMetH_of_parts (laidMet_nil _ _) (by kernel_rfl)
end Card
end Go.Proofs.YtngalkmmpjegkaaGreatDoor
/- The end of a line as plain data: what the program's package link does, and how it lies in memory. Conditions: none. -/
namespace Go.Proofs.YtngalkmmpjegkaaGreatDoor
open Go.RowKit

structure LEnd where
  win : Nat
  wait : Nat
  data : List ByteArray
  acked : Nat
  said : Nat
  ticks : Nat
  got : List ByteArray
  owes : Bool

structure LFrame where
  ack : Bool
  seq : Int
  data : ByteArray

def LFrame.cells (f : LFrame) : List Value := [.bool f.ack, .int .i64 f.seq, .string f.data]
def fcells (l : List LFrame) : List Value := l.flatMap LFrame.cells
theorem fcells_append (a b : List LFrame) : fcells (a ++ b) = fcells a ++ fcells b := by simp [fcells]
theorem fcells_len (l : List LFrame) : (fcells l).length = l.length * 3 := by
  induction l with
  | nil => rfl
  | cons f l ih => simp [fcells, LFrame.cells] at ih ⊢; omega
theorem oneCells_f (l : List LFrame) : OneCells (fcells l) := by
  intro u hu
  obtain ⟨f, _, h⟩ := List.mem_flatMap.1 hu
  simp only [LFrame.cells, List.mem_cons, List.not_mem_nil, or_false] at h
  rcases h with rfl | rfl | rfl <;> rfl

def LEnd.new (win wait : Nat) : LEnd := ⟨win, wait, [], 0, 0, 0, [], false⟩
def LEnd.send (st : LEnd) (s : ByteArray) : LEnd := { st with data := st.data ++ [s] }
/-- How many frames of data it may say, from the first that is not acknowledged. -/
def LEnd.wide (st : LEnd) : Nat := min st.win st.data.length
/-- How many of these it passes over, as it said them already. -/
def LEnd.skip (st : LEnd) : Nat := if st.wait ≤ st.ticks then 0 else max st.said st.acked - st.acked
def LEnd.frame (st : LEnd) (j : Nat) : LFrame := ⟨false, st.acked + j + 1, st.data.getD j ⟨#[]⟩⟩
def LEnd.ackFrames (st : LEnd) : List LFrame := if st.owes then [⟨true, st.got.length, ⟨#[]⟩⟩] else []
def LEnd.outFrames (st : LEnd) : List LFrame := st.ackFrames ++ (List.range' st.skip (st.wide - st.skip)).map st.frame
def LEnd.out (st : LEnd) : LEnd := { st with owes := false, ticks := if st.skip < st.wide then 0 else st.ticks, said := max st.said (st.acked + st.wide) }
def LEnd.tick (st : LEnd) : LEnd := { st with ticks := st.ticks + 1 }
/-- What is wrong with a frame that is heard. -/
def LEnd.hearErr (st : LEnd) (f : LFrame) : Int :=
  if f.ack then (if f.seq < 0 ∨ (st.said : Int) < f.seq then 1 else if f.data.size ≠ 0 then 3 else 0)
  else (if f.seq < 1 then 1 else if 200 < f.data.size then 4 else 0)
def LEnd.hear (st : LEnd) (f : LFrame) : LEnd :=
  if st.hearErr f ≠ 0 then st
  else if f.ack then (if (st.acked : Int) < f.seq then { st with data := st.data.drop (f.seq.toNat - st.acked), acked := f.seq.toNat } else st)
  else { st with got := if f.seq = st.got.length + 1 then st.got ++ [f.data] else st.got, owes := true }

/-- What holds of each end. -/
structure LEnd.Ok (st : LEnd) : Prop where
  win1 : 1 ≤ st.win
  win2 : st.win ≤ 16
  wait1 : 1 ≤ st.wait
  wait2 : st.wait ≤ 20
  data : st.data.length ≤ 100
  acked : st.acked ≤ 100000
  said : st.said ≤ st.acked + st.data.length
  ticks : st.ticks ≤ 100000
  got : st.got.length ≤ 100000

/-- The cells of an end. -/
def LEnd.cells (st : LEnd) (A : Option Addr) (ca : Nat) (G : Option Addr) (cg : Nat) : Array Value :=
  #[.int .i64 st.win, .int .i64 st.wait, .slice A st.data.length ca, .int .i64 st.acked, .int .i64 st.said, .int .i64 st.ticks, .slice G st.got.length cg, .bool st.owes]

theorem elemS : Elem Tryz.prog 253 9 1 16 := Elem.mk_ (z := .string ⟨#[]⟩) Tryz.underlying253 (by kernel_rfl) rfl (by decide)
/-- The blocks of an end. -/
def endBlocks (b : Nat) (A G : Option Addr) : List Nat := b :: (ob A ++ ob G)
section
variable {w w' : World} {B b ca cg : Nat} {A G : Option Addr} {st : LEnd}
end
end Go.Proofs.YtngalkmmpjegkaaGreatDoor
/- Arguments opened: texts, numbers. Plain lemmas. Conditions: none of our own. -/
namespace Go.Proofs.YtngalkmmpjegkaaGreatDoor
open Go.RowKit Go.WideShapes Go.ChangeShapes Go.Deep
set_option linter.unusedVariables false
theorem cellsFInt : Tryz.prog.cellsOf 3 = 1 := by kernel_rfl
theorem cellsFStr : Tryz.prog.cellsOf 9 = 1 := by kernel_rfl
section
variable {H : Type} {enc : TypeId × Value → H} {w : World} {base : Nat} {spare : Nat → Bool} {held : Bool}
theorem flat_one {α : Type} (f : α → Value) (l : List α) : l.flatMap (fun x => [f x]) = l.map f := by
  induction l with
  | nil => rfl
  | cons x l ih => simp [List.flatMap_cons, ih]
set_option maxRecDepth 100000 in
theorem arg_strs {r : Reach} {b0 : Nat} {v : Value} {d : DataW H} {p : List MemPlace} (hv : Value.okWide Tryz.prog w r b0 253 v) (h : DataW.Trod enc Tryz.prog w base spare held 253 v d p) :
    ∃ (A : Option Addr) (cap : Nat) (l : List ByteArray), v = .slice A l.length cap ∧ Reads w w.heap.size 1 A l.length (strs l) ∧ (∀ y ∈ l, y.size ≤ maxLen) ∧ l.length ≤ cap ∧ cap ≤ maxLen := by
  obtain ⟨a, len, c, rfl⟩ := okWide_slice Tryz.underlying253 hv
  obtain ⟨fuel, hf⟩ := h
  obtain ⟨A, cap, l, e, hr, h2⟩ := open_list (α := ByteArray) (fun s => [.string s]) (fun s => s.size ≤ maxLen) Tryz.underlying253 cellsFStr (by decide) (fun _ => rfl) (fun _ cs _ h => by
    obtain ⟨s, e, _, hs⟩ := DataW.trod_string Tryz.underlying9 h
    exact ⟨s, e, hs⟩) hf
  rw [flat_one] at hr
  refine ⟨A, cap, l, ?_, hr, h2⟩
  have e' : [Value.slice a len c] = [.slice A l.length cap] := e
  injection e'
set_option maxRecDepth 100000 in
theorem arg_ints {r : Reach} {b0 : Nat} {v : Value} {d : DataW H} {p : List MemPlace} (hv : Value.okWide Tryz.prog w r b0 23 v) (h : DataW.Trod enc Tryz.prog w base spare held 23 v d p) :
    ∃ (A : Option Addr) (cap : Nat) (l : List Int), v = .slice A l.length cap ∧ Reads w w.heap.size 1 A l.length (l.map (Value.int .i64)) ∧ (∀ y ∈ l, I64 y) ∧ l.length ≤ cap ∧ cap ≤ maxLen := by
  obtain ⟨a, len, c, rfl⟩ := okWide_slice Tryz.underlying23 hv
  obtain ⟨fuel, hf⟩ := h
  obtain ⟨A, cap, l, e, hr, h2⟩ := open_list (α := Int) (fun s => [.int .i64 s]) I64 Tryz.underlying23 cellsFInt (by decide) (fun _ => rfl) (fun _ cs _ h => by
    obtain ⟨s, e, _, hs⟩ := DataW.trod_int Tryz.underlying3 h
    exact ⟨s, e, i64_of_wf hs⟩) hf
  rw [flat_one] at hr
  refine ⟨A, cap, l, ?_, hr, h2⟩
  have e' : [Value.slice a len c] = [.slice A l.length cap] := e
  injection e'
end
end Go.Proofs.YtngalkmmpjegkaaGreatDoor
/- Arguments opened: frames, texts, numbers. Plain lemmas. Conditions: none of our own. -/
namespace Go.Proofs.YtngalkmmpjegkaaGreatDoor
open Go.RowKit Go.WideShapes Go.ChangeShapes Go.Deep
set_option linter.unusedVariables false

instance : Inhabited LFrame := ⟨⟨false, 0, ⟨#[]⟩⟩⟩
def LFrame.In (x : LFrame) : Prop := x.data.size ≤ maxLen ∧ I64 x.seq
theorem cellsFBool : Tryz.prog.cellsOf 4 = 1 := by kernel_rfl
section
variable {H : Type} {enc : TypeId × Value → H} {w : World} {base : Nat} {spare : Nat → Bool} {held : Bool}
end
end Go.Proofs.YtngalkmmpjegkaaGreatDoor
/- leaflaw3.BackTells, proved: which op any author did last, and which take back so many. Conditions: the library's one variable holds what its text lays (the card ties it). -/
namespace Go.Proofs.YtngalkmmpjegkaaGreatDoor
open Go.RowKit Go.WideShapes Go.ChangeShapes Go.ChangeAt
set_option linter.unusedVariables false
theorem ops_alike {Wa Wb W : World} {Ba Bb : Nat} {V1 V2 : Option Addr} {c1 c2 : Nat} {z1 z2 : List OpAt} (h1 : OwnOps Wa Ba V1 c1 z1) (hb1 : Below Wa.heap.size Wa W) (h2 : OwnOps Wb Bb V2 c2 z2) (hb2 : Below Wb.heap.size Wb W) (he : z1.map OpAt.op = z2.map OpAt.op) :
    Calls Tryz.prog 32 #[.slice V1 z1.length c1, .slice V2 z2.length c2] W (CheckPost W (.bool true)) := by
  have lim : ∀ {w : World} {B : Nat} {e : TypeId} {size : Nat} {A : Option Addr} {n c : Nat} {xs : List Value}, Own w B e size A n c xs → n ≤ 9223372036854775807 := fun h => by
    have h3 := h.cap_le
    have h4 := h.cap_max
    unfold maxLen at h4
    omega
  have key := SameOps.any W V1 V2 c1 c2 z1 z2 (h1.row.below hb1).reads (h2.row.below hb2).reads
    (fun y hy => ⟨((h1.seen y hy).below hb1).reads, lim (h1.seen y hy)⟩)
    (fun y hy => ⟨((h2.seen y hy).below hb2).reads, lim (h2.seen y hy)⟩) (lim h1.row) (lim h2.row)
  rw [decide_eq_true he] at key
  exact key
/-- The last op of an author among the first k. -/
def LDoc.lastK (st : LDoc) (who : Int) (k : Nat) : Option LOp := (st.ops.take k).reverse.find? fun o => decide (o.dot.who = who)
theorem LDoc.lastK_succ {st : LDoc} {who : Int} {k : Nat} (hk : k < st.ops.length) : st.lastK who (k + 1) = if st.ops[k].dot.who = who then some st.ops[k] else st.lastK who k := by
  unfold LDoc.lastK
  rw [rev_take hk, List.find?_cons]
  by_cases h : st.ops[k].dot.who = who <;> simp [h]
theorem LDoc.lastK_all (st : LDoc) (who : Int) : st.lastK who st.ops.length = st.lastF who := by
  unfold LDoc.lastK LDoc.lastF
  rw [List.take_length]
theorem six_set {W : World} {g : Nat} {b0 b1 b2 b3 b4 b5 : Value} (h : Blk W g 30 #[b0, b1, b2, b3, b4, b5]) (a0 a1 a2 a3 a4 a5 : Value) :
    Blk ((((((W.setCell ⟨g, 0, none⟩ a0).setCell ⟨g, 1, none⟩ a1).setCell ⟨g, 2, none⟩ a2).setCell ⟨g, 3, none⟩ a3).setCell ⟨g, 4, none⟩ a4).setCell ⟨g, 5, none⟩ a5) g 30 #[a0, a1, a2, a3, a4, a5] ∧
      Only [g] W ((((((W.setCell ⟨g, 0, none⟩ a0).setCell ⟨g, 1, none⟩ a1).setCell ⟨g, 2, none⟩ a2).setCell ⟨g, 3, none⟩ a3).setCell ⟨g, 4, none⟩ a4).setCell ⟨g, 5, none⟩ a5) :=
  ⟨(((((h.set_ 0 a0).set_ 1 a1).set_ 2 a2).set_ 3 a3).set_ 4 a4).set_ 5 a5,
    ((((((Only.refl _ _).setCell (.inl (by simp)) _).setCell (.inl (by simp)) _).setCell (.inl (by simp)) _).setCell (.inl (by simp)) _).setCell (.inl (by simp)) _).setCell (.inl (by simp)) _⟩
/-- What is wanted, midway. -/
structure WantAt (w1 wr : World) (bw : Nat) (D2 : RLay) (lo : LOp) (ya : Option Addr) (yc : Nat) : Prop where
  box : Blk wr bw 30 (lo.cells ya yc)
  only : Only [bw] w1 wr
  seen : lo.seen = [] ∨ ∃ y ∈ D2.ys, ya = y.at_ ∧ lo = y.op
def WantLoop (w1 : World) (bw : Nat) (D2 : RLay) (st : LDoc) (who : Int) (ev i : Value) (wr : World) : Prop :=
  ∃ k : Nat, ∃ ya yc, k ≤ st.ops.length ∧ i = .int .i64 k ∧ ev = .int .i64 (if (st.lastK who k).isSome = true then 0 else 5) ∧ Hid (WantAt w1 wr bw D2 ((st.lastK who k).getD LDoc.zeroO) ya yc)
namespace lawBackTells
set_option maxRecDepth 100000 in
set_option maxHeartbeats 8000000 in
theorem walk (w : World) (A0 : Option Addr) (c0 : Nat) (ys : List OpAt) (who n : Int) (hglob : Glob w) (h0 : Reads w w.heap.size 6 A0 ys.length (ocells ys)) (hg : ∀ y ∈ ys, y.Good w)
    (hn0 : ys.length ≤ 9223372036854775807) (hw0 : -9223372036854775808 ≤ who) (hw1 : who ≤ 9223372036854775807) :
    Calls Tryz.prog 4 #[.slice A0 ys.length c0, .int .i64 who, .int .i64 n] w (CheckPost w (.bool true)) := by
  have HR0 := Lib.hid h0
  have HG := Lib.hid hg
  have HGL := Lib.hid hglob
  have HN := Lib.hid (new_doc w)
  clear h0 hg hglob
  go_enter Tryz.func4, Tryz.ntmps4
  go_wp2_with fail
  refine HN.out.mono ?_
  rintro e w1 ⟨b1, S1, D1, rfl, hd1, hb1⟩
  have HD1 := Lib.hid hd1
  have HB1 := Lib.hid hb1
  have HRN := Lib.hid (rnew_doc w1)
  clear hd1 hb1 HN
  go_wp2_with fail
  refine HRN.out.mono ?_
  rintro e w2 ⟨b2, S2, D2, rfl, hd2, hb2⟩
  have HP2 : Hid (PlayAt w w.heap.size b1 b2 0 w2) := by
    have hS : ∀ g ∈ S2, w1.heap.size ≤ g := fun g hg => (hd2.own g hg).1
    have hd2' : RDocIs w2 w.heap.size S2 b2 LDoc.new D2 :=
      { hd2 with
        book := ⟨hd2.book.row, fun hn => absurd hn (by simp [LDoc.new]), hd2.book.out⟩
        marks := ⟨hd2.marks.row, fun hn => absurd hn (by simp [LDoc.new]), hd2.marks.out⟩
        known := hd2.known.mono HB1.out.size
        ops := hd2.ops.mono HB1.out.size
        seen := fun y hy => by
          have hz := hd2.ys_len
          have : D2.ys = [] := List.eq_nil_of_length_eq_zero hz
          rw [this] at hy; cases hy
        own := fun g hg => ⟨Nat.le_trans HB1.out.size (hd2.own g hg).1, (hd2.own g hg).2⟩ }
    exact ⟨LDoc.new, S1, S2, D1, D2, Twin.make HB1.out (Nat.le_refl _) HD1.out hb2 hd2' hS, LDoc.new_ok, Says.new, Nat.zero_le _⟩
  clear hd2 hb2 HRN HD1 HB1
  go_upto_block 0 with (fail)
  go_cut [9] (fun _ wx => PlayAt w w.heap.size b1 b2 60 wx)
  case first =>
    go_wp2_with fail
    go_loopw [9] (fun i wr => PlayRound w w.heap.size b1 b2 i wr) (fun i _ => 60 - (intOf i).toNat)
    case atStart => exact ⟨0, by omega, rfl, HP2.out⟩
    case round =>
      obtain ⟨k, hk, rfl, HK⟩ := hrel
      have k0 : (0 : Int) ≤ (k : Int) := by omega
      by_cases h1 : k < ys.length
      · have k1 : (k : Int) < (ys.length : Int) := by omega
        by_cases h2 : k < 60
        · have k2 : (k : Int) < 60 := by omega
          obtain ⟨ad, who', nn, what, p', letter', seen, ya, yc, rfl, hbw, HCL, HC⟩ := HK.out.round HR0.out HG.out h1
          obtain ⟨d0, d1, d2, d3, d4, d5⟩ := HCL.out _ hbw
          clear hbw HK
          go_wp2_with fail
          refine HC.out.mono ?_
          rintro e w3 ⟨is, ke, rfl, hbw, hC⟩
          have HC := Lib.hid hC
          clear d0 d1 d2 d3 d4 d5 hC
          obtain ⟨d0, d1, d2, d3, d4, d5⟩ := HCL.out _ hbw
          clear hbw
          go_wp2_with fail
          refine HC.out.mono ?_
          rintro e w4 ⟨rfl, hD⟩
          have HP4 := Lib.hid hD
          have HER := Lib.hid (error_any w4 ke ke (HGL.out.below hD.below (Nat.le_refl _)))
          rw [show (ke == ke) = true by simp] at HER
          clear hD HC d0 d1 d2 d3 d4 d5
          go_wp2_with fail
          refine HER.out.mono ?_
          rintro e w5 ⟨rfl, hb5⟩
          obtain ⟨st, S1, S2, D1, D2, htw, hok, hsay, hlen⟩ := HP4.out
          have HPL : Hid (PlayAt w w.heap.size b1 b2 (k + 1) w5) := ⟨st, S1, S2, D1, D2, htw.step hb5, hok, hsay, hlen⟩
          clear htw hok hsay hlen hb5 HER HP4
          go_wp2_with fail
          go_roundw
          case rel => exact ⟨k + 1, by omega, by go_num, HPL.out⟩
          case measure => simp [intOf]; omega
        · have k2 : ¬ (k : Int) < 60 := by omega
          have HF := Lib.hid (HK.out.more (m := 60) (by omega))
          go_wp2_with fail
          go_meet
          case rel => exact HF.out
      · have k1 : ¬ (k : Int) < (ys.length : Int) := by omega
        have HF := Lib.hid (HK.out.more (m := 60) (by omega))
        go_wp2_with fail
        go_meet
        case rel => exact HF.out
  case rest =>
    obtain ⟨st, S1, S2, D1, D2, htw, hok, hsay, hlen⟩ := hcut
    have HTW := Lib.hid htw
    have OK := Lib.hid hok
    have hln := htw.two.ys_len
    have hfew := hok.few
    have HBWC : Hid (Below w.heap.size w wc) := htw.below
    clear htw hok hsay hlen HP2 HR0 HG
    have HW1B : Hid (Below wc.heap.size wc (wc.alloc (.cells #[.int .i64 0, .int .i64 0, .int .i64 0, .string ⟨#[]⟩, .int .i64 0, .slice none 0 0] 30))) := (Below.refl _ wc).alloc (Nat.le_refl _) _
    have HW1X : Hid (Blk (wc.alloc (.cells #[.int .i64 0, .int .i64 0, .int .i64 0, .string ⟨#[]⟩, .int .i64 0, .slice none 0 0] 30)) wc.heap.size 30 #[.int .i64 0, .int .i64 0, .int .i64 0, .string ⟨#[]⟩, .int .i64 0, .slice none 0 0]) := Blk.new _ _ _
    obtain ⟨W1, hW1⟩ : ∃ W1, W1 = (wc.alloc (.cells #[.int .i64 0, .int .i64 0, .int .i64 0, .string ⟨#[]⟩, .int .i64 0, .slice none 0 0] 30)) := ⟨_, rfl⟩
    rw [← hW1] at HW1B HW1X
    by_cases hwho : LDoc.whoE who = 0
    · obtain ⟨_, g1, g8⟩ := who_dot hwho
      have d1 : decide (who ≥ 1) = true := decide_eq_true g1
      have d8 : decide (who ≤ 8) = true := decide_eq_true g8
      have HLE : Hid (st.lastE who = if (st.lastF who).isSome = true then 0 else 5) := if_neg (by simp [hwho])
      have HLR : Hid (st.lastR who = (st.lastF who).getD LDoc.zeroO) := if_neg (by simp [hwho])
      clear hwho
      go_wp2_with fail
      rw [← hW1]
      clear hW1
      go_loopw [15, 17] (fun ev i wr => WantLoop W1 wc.heap.size D2 st who ev i wr) (fun _ i _ => st.ops.length - (intOf i).toNat)
      case atStart => exact ⟨0, none, 0, Nat.zero_le _, rfl, rfl, HW1X.out, Only.refl _ _, .inl rfl⟩
      case round =>
        obtain ⟨k, ya, yc, hk, rfl, rfl, HWT⟩ := hrel
        have HBR : Hid (Below wc.heap.size wc wr) := HW1B.out.trans (HWT.out.only.below HW1B.out.size (fun g hg => by simp at hg; omega))
        have HTR := Lib.hid (HTW.out.step HBR.out)
        have d3 : wr.cell? ⟨b2, 3, none⟩ = some (.slice D2.a4 st.ops.length D2.c4) := by rw [HTR.out.two.blk.cell]; rfl
        have k0 : (0 : Int) ≤ (k : Int) := by omega
        by_cases hkl : k < st.ops.length
        · have kl : (k : Int) < (st.ops.length : Int) := by omega
          have HRO : Hid (Reads wr wr.heap.size 6 D2.a4 D2.ys.length (ocells D2.ys)) := by
            have := HTR.out.two.ops.reads
            rw [← hln] at this
            exact this
          obtain ⟨ad, hV, _, c0, c1, c2, c3, c4, c5⟩ := HRO.out.op (show k < D2.ys.length by omega)
          have HOP : Hid (st.ops[k] = (D2.ys[k]'(by omega)).op) := by
            show _ = _
            have := HTR.out.two.same
            simp only [← this, List.getElem_map]
          rw [hV] at d3
          have HKS := Lib.hid (LDoc.lastK_succ (who := who) hkl)
          rw [HOP.out] at HKS
          obtain ⟨y, hy⟩ : ∃ y, y = (D2.ys[k]'(by omega)) := ⟨_, rfl⟩
          have HYM : Hid (y ∈ D2.ys) := by rw [hy]; exact List.getElem_mem _
          rw [← hy] at c0 c1 c2 c3 c4 c5 HKS
          clear hy HOP hV HRO
          obtain ⟨⟨⟨xw, xn⟩, what, p, letter, seen⟩, xa, xc⟩ := y
          dsimp only at c0 c1 c2 c3 c4 c5 HKS
          have q1 : IntKind.i64.wrap ((k : Int) + 1) = ((k + 1 : Nat) : Int) := by rw [IntWalk.i64_in _ (by omega)]; omega
          obtain ⟨lk, hlk⟩ : ∃ lk, lk = st.lastK who k := ⟨_, rfl⟩
          rw [← hlk] at HKS HWT ⊢
          clear hlk
          by_cases hx : xw = who
          · subst hx
            have gx : (xw == xw) = true := by simp
            have HKS2 : Hid (st.lastK xw (k + 1) = some ⟨⟨xw, xn⟩, what, p, letter, seen⟩) := by show _ = _; rw [HKS.out, if_pos rfl]
            generalize lk.getD LDoc.zeroO = lo at *
            obtain ⟨⟨lw, ln⟩, lh, lp, ll, ls⟩ := lo
            have HBX := Lib.hid HWT.out.box
            unfold LOp.cells at HBX
            dsimp only at HBX
            have f0 := HBX.out.frozen 0
            have f1 := HBX.out.frozen 1
            have f2 := HBX.out.frozen 2
            have f3 := HBX.out.frozen 3
            have f4 := HBX.out.frozen 4
            have f5 := HBX.out.frozen 5
            have z0 : wr.cell? ⟨wc.heap.size, 0, none⟩ = some (.int .i64 lw) := by rw [HBX.out.cell]; rfl
            have z1 : wr.cell? ⟨wc.heap.size, 1, none⟩ = some (.int .i64 ln) := by rw [HBX.out.cell]; rfl
            have z2 : wr.cell? ⟨wc.heap.size, 2, none⟩ = some (.int .i64 lh) := by rw [HBX.out.cell]; rfl
            have z3 : wr.cell? ⟨wc.heap.size, 3, none⟩ = some (.string lp) := by rw [HBX.out.cell]; rfl
            have z4 : wr.cell? ⟨wc.heap.size, 4, none⟩ = some (.int .i64 ll) := by rw [HBX.out.cell]; rfl
            have z5 : wr.cell? ⟨wc.heap.size, 5, none⟩ = some (.slice ya ls.length yc) := by rw [HBX.out.cell]; rfl
            clear HKS
            go_wp2_with fail
            go_roundw
            case rel =>
              obtain ⟨n1, n2⟩ := six_set HBX.out (.int .i64 xw) (.int .i64 xn) (.int .i64 what) (.string p) (.int .i64 letter) (.slice xa seen.length xc)
              exact ⟨k + 1, xa, xc, by omega, rfl, by rw [HKS2.out]; rfl, by rw [HKS2.out]; exact ⟨n1, HWT.out.only.trans n2, .inr ⟨_, HYM.out, rfl, rfl⟩⟩⟩
            case measure => simp [intOf]; omega
          · have gx : (xw == who) = false := by simp [hx]
            have HKS2 : Hid (st.lastK who (k + 1) = lk) := by show _ = _; rw [HKS.out, if_neg hx]
            clear hx HKS
            generalize hev : (if lk.isSome = true then (0 : Int) else 5) = evi at *
            have HEV := Lib.hid hev
            clear hev
            go_wp2_with fail
            go_roundw
            case rel => exact ⟨k + 1, ya, yc, by omega, rfl, by rw [HKS2.out, HEV.out], by rw [HKS2.out]; exact HWT.out⟩
            case measure => simp [intOf]; omega
        · obtain rfl : k = st.ops.length := by omega
          have kl : ¬ (st.ops.length : Int) < (st.ops.length : Int) := by omega
          have HWX : Hid (Blk wr wc.heap.size 30 ((st.lastR who).cells ya yc)) := by
            have := HWT.out.box
            rw [LDoc.lastK_all, ← HLR.out] at this
            exact this
          have HSN : Hid ((st.lastR who).seen = [] ∨ ∃ y ∈ D2.ys, ya = y.at_ ∧ st.lastR who = y.op) := by
            have := HWT.out.seen
            rw [LDoc.lastK_all, ← HLR.out] at this
            exact this
          have hle : (if (st.lastK who st.ops.length).isSome = true then (0 : Int) else 5) = st.lastE who := by rw [LDoc.lastK_all, HLE.out]
          rw [hle]
          clear hle HWT
          have HLA := Lib.hid (last_any wr _ _ _ _ _ HTR.out.one OK.out who)
          go_wp2_with fail
          clear d3
          refine HLA.out.mono ?_
          rintro e w6 ⟨A, c, rfl, hO, hb6⟩
          have HO := Lib.hid hO
          have HBW6 := Lib.hid hb6
          have HB6 := Lib.hid (HBR.out.trans (hb6.mono HBR.out.size))
          have HWX6 := Lib.hid (HWX.out.below hb6 HWX.out.lt)
          clear hO hb6 HLA
          generalize hlo : st.lastR who = lo at *
          generalize hle2 : st.lastE who = le at *
          have HLO := Lib.hid hlo
          have HLEE := Lib.hid hle2
          clear hlo hle2
          obtain ⟨⟨lw, ln⟩, lh, lp, ll, ls⟩ := lo
          unfold LOp.val
          unfold LOp.cells at HWX6
          try dsimp only at HO
          try dsimp only at HWX6
          try dsimp only at HSN
          obtain ⟨W7, hW7⟩ : ∃ W7, W7 = (w6.alloc (.cells #[.int .i64 lw, .int .i64 ln, .int .i64 lh, .string lp, .int .i64 ll, .slice A ls.length c] 30)) := ⟨_, rfl⟩
          have HBX7 : Hid (Blk W7 w6.heap.size 30 #[.int .i64 lw, .int .i64 ln, .int .i64 lh, .string lp, .int .i64 ll, .slice A ls.length c]) := by rw [hW7]; exact Blk.new _ _ _
          have HBB7 : Hid (Below w6.heap.size w6 W7) := by rw [hW7]; exact (Below.refl _ w6).alloc (Nat.le_refl _) _
          have HB7 := Lib.hid (HB6.out.trans (HBB7.out.mono HB6.out.size))
          have HW7 := Lib.hid (HWX6.out.below HBB7.out HWX6.out.lt)
          have HER := Lib.hid (error_any W7 le le (HGL.out.below (HBWC.out.trans (HB7.out.mono HBWC.out.size)) (Nat.le_refl _)))
          rw [show (le == le) = true by simp] at HER
          go_wp2_with fail
          rw [← hW7]
          clear hW7
          refine HER.out.mono ?_
          rintro e w8 ⟨rfl, hb8⟩
          have HB8 := Lib.hid (HB7.out.trans (hb8.mono HB7.out.size))
          have HX8 := Lib.hid (HBX7.out.below hb8 HBX7.out.lt)
          have HW8 := Lib.hid (HW7.out.below hb8 HW7.out.lt)
          have HBW8 : Hid (Below wr.heap.size wr w8) := HBW6.out.trans ((HBB7.out.trans (hb8.mono HBB7.out.size)).mono HBW6.out.size)
          have HBO8 : Hid (Below w6.heap.size w6 w8) := HBB7.out.trans (hb8.mono HBB7.out.size)
          have HTW8 := Lib.hid (HTW.out.step HB8.out)
          have HSL : Hid (ls.length ≤ 9223372036854775807) := by
            have h3 := HO.out.cap_le
            have h4 := HO.out.cap_max
            unfold maxLen at h4
            show _ ≤ _
            try dsimp only at h3
            omega
          have HRY : Hid (Reads w8 w8.heap.size 2 ya ls.length (dcells ls)) := by
            rcases HSN.out with h | ⟨y, hy, hya, hyo⟩
            · subst h; exact ⟨rfl, fun h => absurd h (by simp)⟩
            · have := (HTW8.out.two.seen y hy).row
              rw [← hyo, ← hya] at this
              exact this
          have HSO := Lib.hid (SameOp.any w8 ⟨⟨lw, ln⟩, lh, lp, ll, ls⟩ ⟨⟨lw, ln⟩, lh, lp, ll, ls⟩ A ya c yc ((HO.out.below HBO8.out).reads) HRY.out HSL.out HSL.out)
          rw [decide_eq_true rfl] at HSO
          unfold LOp.val at HSO
          try dsimp only at HSO
          have x0 : w8.cell? ⟨w6.heap.size, 0, none⟩ = some (.int .i64 lw) := by rw [HX8.out.cell]; rfl
          have x1 : w8.cell? ⟨w6.heap.size, 1, none⟩ = some (.int .i64 ln) := by rw [HX8.out.cell]; rfl
          have x2 : w8.cell? ⟨w6.heap.size, 2, none⟩ = some (.int .i64 lh) := by rw [HX8.out.cell]; rfl
          have x3 : w8.cell? ⟨w6.heap.size, 3, none⟩ = some (.string lp) := by rw [HX8.out.cell]; rfl
          have x4 : w8.cell? ⟨w6.heap.size, 4, none⟩ = some (.int .i64 ll) := by rw [HX8.out.cell]; rfl
          have x5 : w8.cell? ⟨w6.heap.size, 5, none⟩ = some (.slice A ls.length c) := by rw [HX8.out.cell]; rfl
          have z0 : w8.cell? ⟨wc.heap.size, 0, none⟩ = some (.int .i64 lw) := by rw [HW8.out.cell]; rfl
          have z1 : w8.cell? ⟨wc.heap.size, 1, none⟩ = some (.int .i64 ln) := by rw [HW8.out.cell]; rfl
          have z2 : w8.cell? ⟨wc.heap.size, 2, none⟩ = some (.int .i64 lh) := by rw [HW8.out.cell]; rfl
          have z3 : w8.cell? ⟨wc.heap.size, 3, none⟩ = some (.string lp) := by rw [HW8.out.cell]; rfl
          have z4 : w8.cell? ⟨wc.heap.size, 4, none⟩ = some (.int .i64 ll) := by rw [HW8.out.cell]; rfl
          have z5 : w8.cell? ⟨wc.heap.size, 5, none⟩ = some (.slice ya ls.length yc) := by rw [HW8.out.cell]; rfl
          clear hb8 HER
          go_wp2_with fail
          refine HSO.out.mono ?_
          rintro e w9 ⟨rfl, hb9⟩
          have HB9 := Lib.hid (HB8.out.trans (hb9.mono HB8.out.size))
          have HTW9 := Lib.hid (HTW.out.step HB9.out)
          have HRU := Lib.hid (rundo_any w9 _ _ _ _ _ HTW9.out.two OK.out who n)
          clear hb9 HSO x0 x1 x2 x3 x4 x5 z0 z1 z2 z3 z4 z5
          go_wp2_with fail
          refine HRU.out.mono ?_
          rintro e w10 ⟨V1, c1, y1, rfl, hy1, hO1, hb10⟩
          have HB10 := Lib.hid (HB9.out.trans (hb10.mono HB9.out.size))
          have HTW10 := Lib.hid (HTW.out.step HB10.out)
          have HY1 := Lib.hid hy1
          have HO1 := Lib.hid hO1
          have HUN := Lib.hid (undo_any w10 _ _ _ _ _ HTW10.out.one OK.out who n hw0 hw1)
          clear hy1 hO1 hb10 HRU
          go_wp2_with fail
          refine HUN.out.mono ?_
          rintro e w11 ⟨V2, c2, y2, rfl, hy2, hO2, hb11⟩
          have HB11 := Lib.hid (HB10.out.trans (hb11.mono HB10.out.size))
          have HY2 := Lib.hid hy2
          have HO2 := Lib.hid hO2
          have HBB11 := Lib.hid hb11
          generalize st.undE who n = ue at *
          have HER := Lib.hid (error_any w11 ue ue (HGL.out.below (HBWC.out.trans (HB11.out.mono HBWC.out.size)) (Nat.le_refl _)))
          rw [show (ue == ue) = true by simp] at HER
          clear hy2 hO2 hb11 HUN
          go_wp2_with fail
          refine HER.out.mono ?_
          rintro e w12 ⟨rfl, hb12⟩
          have HB12 := Lib.hid (HB11.out.trans (hb12.mono HB11.out.size))
          have HOA := Lib.hid (ops_alike HO2.out hb12 HO1.out (HBB11.out.trans (hb12.mono HBB11.out.size)) (by rw [HY1.out, HY2.out]))
          clear hb12 HER
          go_wp2_with fail
          refine HOA.out.mono ?_
          rintro e w13 ⟨rfl, hb13⟩
          have HBF : Hid (Below w.heap.size w w13) := HBWC.out.trans ((HB12.out.trans (hb13.mono HB12.out.size)).mono HBWC.out.size)
          clear hb13 HOA
          go_wp2_with fail
          go_ret
          exact ⟨rfl, HBF.out⟩
    · have hh : who < 1 ∨ 8 < who := by
        unfold LDoc.whoE at hwho
        split at hwho
        · assumption
        · exact absurd rfl hwho
      have HLE : Hid (st.lastE who = 1) := if_pos hwho
      have HLR : Hid (st.lastR who = LDoc.zeroO) := if_pos hwho
      have HWX : Hid (Blk W1 wc.heap.size 30 ((st.lastR who).cells none 0)) := by rw [HLR.out]; exact HW1X.out
      have HSN : Hid ((st.lastR who).seen = [] ∨ ∃ y ∈ D2.ys, (none : Option Addr) = y.at_ ∧ st.lastR who = y.op) := .inl (by rw [HLR.out]; rfl)
      have hle : (1 : Int) = st.lastE who := HLE.out.symm
      have HLE1 := Lib.hid hle
      clear hwho hle
      have HTR := Lib.hid (HTW.out.step HW1B.out)
      have HBR := HW1B
      have HLA1 := Lib.hid (last_any W1 _ _ _ _ _ HTR.out.one OK.out who)
      by_cases h1 : who < 1
      · have d1 : decide (who ≥ 1) = false := decide_eq_false (by omega)
        clear hh
        go_wp2_with fail
        rw [← hW1]
        clear hW1
        rw [HLE1.out]
        have HLA := HLA1
        clear HLA1 HLE1 HLE HLR
        refine HLA.out.mono ?_
        rintro e w6 ⟨A, c, rfl, hO, hb6⟩
        have HO := Lib.hid hO
        have HBW6 := Lib.hid hb6
        have HB6 := Lib.hid (HBR.out.trans (hb6.mono HBR.out.size))
        have HWX6 := Lib.hid (HWX.out.below hb6 HWX.out.lt)
        clear hO hb6 HLA
        generalize hlo : st.lastR who = lo at *
        generalize hle2 : st.lastE who = le at *
        have HLO := Lib.hid hlo
        have HLEE := Lib.hid hle2
        clear hlo hle2
        obtain ⟨⟨lw, ln⟩, lh, lp, ll, ls⟩ := lo
        unfold LOp.val
        unfold LOp.cells at HWX6
        try dsimp only at HO
        try dsimp only at HWX6
        try dsimp only at HSN
        obtain ⟨W7, hW7⟩ : ∃ W7, W7 = (w6.alloc (.cells #[.int .i64 lw, .int .i64 ln, .int .i64 lh, .string lp, .int .i64 ll, .slice A ls.length c] 30)) := ⟨_, rfl⟩
        have HBX7 : Hid (Blk W7 w6.heap.size 30 #[.int .i64 lw, .int .i64 ln, .int .i64 lh, .string lp, .int .i64 ll, .slice A ls.length c]) := by rw [hW7]; exact Blk.new _ _ _
        have HBB7 : Hid (Below w6.heap.size w6 W7) := by rw [hW7]; exact (Below.refl _ w6).alloc (Nat.le_refl _) _
        have HB7 := Lib.hid (HB6.out.trans (HBB7.out.mono HB6.out.size))
        have HW7 := Lib.hid (HWX6.out.below HBB7.out HWX6.out.lt)
        have HER := Lib.hid (error_any W7 le le (HGL.out.below (HBWC.out.trans (HB7.out.mono HBWC.out.size)) (Nat.le_refl _)))
        rw [show (le == le) = true by simp] at HER
        go_wp2_with fail
        rw [← hW7]
        clear hW7
        refine HER.out.mono ?_
        rintro e w8 ⟨rfl, hb8⟩
        have HB8 := Lib.hid (HB7.out.trans (hb8.mono HB7.out.size))
        have HX8 := Lib.hid (HBX7.out.below hb8 HBX7.out.lt)
        have HW8 := Lib.hid (HW7.out.below hb8 HW7.out.lt)
        have HBW8 : Hid (Below W1.heap.size W1 w8) := HBW6.out.trans ((HBB7.out.trans (hb8.mono HBB7.out.size)).mono HBW6.out.size)
        have HBO8 : Hid (Below w6.heap.size w6 w8) := HBB7.out.trans (hb8.mono HBB7.out.size)
        have HTW8 := Lib.hid (HTW.out.step HB8.out)
        have HSL : Hid (ls.length ≤ 9223372036854775807) := by
          have h3 := HO.out.cap_le
          have h4 := HO.out.cap_max
          unfold maxLen at h4
          show _ ≤ _
          try dsimp only at h3
          omega
        have HRY : Hid (Reads w8 w8.heap.size 2 none ls.length (dcells ls)) := by
          rcases HSN.out with h | ⟨y, hy, hya, hyo⟩
          · subst h; exact ⟨rfl, fun h => absurd h (by simp)⟩
          · have := (HTW8.out.two.seen y hy).row
            rw [← hyo, ← hya] at this
            exact this
        have HSO := Lib.hid (SameOp.any w8 ⟨⟨lw, ln⟩, lh, lp, ll, ls⟩ ⟨⟨lw, ln⟩, lh, lp, ll, ls⟩ A none c 0 ((HO.out.below HBO8.out).reads) HRY.out HSL.out HSL.out)
        rw [decide_eq_true rfl] at HSO
        unfold LOp.val at HSO
        try dsimp only at HSO
        have x0 : w8.cell? ⟨w6.heap.size, 0, none⟩ = some (.int .i64 lw) := by rw [HX8.out.cell]; rfl
        have x1 : w8.cell? ⟨w6.heap.size, 1, none⟩ = some (.int .i64 ln) := by rw [HX8.out.cell]; rfl
        have x2 : w8.cell? ⟨w6.heap.size, 2, none⟩ = some (.int .i64 lh) := by rw [HX8.out.cell]; rfl
        have x3 : w8.cell? ⟨w6.heap.size, 3, none⟩ = some (.string lp) := by rw [HX8.out.cell]; rfl
        have x4 : w8.cell? ⟨w6.heap.size, 4, none⟩ = some (.int .i64 ll) := by rw [HX8.out.cell]; rfl
        have x5 : w8.cell? ⟨w6.heap.size, 5, none⟩ = some (.slice A ls.length c) := by rw [HX8.out.cell]; rfl
        have z0 : w8.cell? ⟨wc.heap.size, 0, none⟩ = some (.int .i64 lw) := by rw [HW8.out.cell]; rfl
        have z1 : w8.cell? ⟨wc.heap.size, 1, none⟩ = some (.int .i64 ln) := by rw [HW8.out.cell]; rfl
        have z2 : w8.cell? ⟨wc.heap.size, 2, none⟩ = some (.int .i64 lh) := by rw [HW8.out.cell]; rfl
        have z3 : w8.cell? ⟨wc.heap.size, 3, none⟩ = some (.string lp) := by rw [HW8.out.cell]; rfl
        have z4 : w8.cell? ⟨wc.heap.size, 4, none⟩ = some (.int .i64 ll) := by rw [HW8.out.cell]; rfl
        have z5 : w8.cell? ⟨wc.heap.size, 5, none⟩ = some (.slice none ls.length 0) := by rw [HW8.out.cell]; rfl
        clear hb8 HER
        go_wp2_with fail
        refine HSO.out.mono ?_
        rintro e w9 ⟨rfl, hb9⟩
        have HB9 := Lib.hid (HB8.out.trans (hb9.mono HB8.out.size))
        have HTW9 := Lib.hid (HTW.out.step HB9.out)
        have HRU := Lib.hid (rundo_any w9 _ _ _ _ _ HTW9.out.two OK.out who n)
        clear hb9 HSO x0 x1 x2 x3 x4 x5 z0 z1 z2 z3 z4 z5
        go_wp2_with fail
        refine HRU.out.mono ?_
        rintro e w10 ⟨V1, c1, y1, rfl, hy1, hO1, hb10⟩
        have HB10 := Lib.hid (HB9.out.trans (hb10.mono HB9.out.size))
        have HTW10 := Lib.hid (HTW.out.step HB10.out)
        have HY1 := Lib.hid hy1
        have HO1 := Lib.hid hO1
        have HUN := Lib.hid (undo_any w10 _ _ _ _ _ HTW10.out.one OK.out who n hw0 hw1)
        clear hy1 hO1 hb10 HRU
        go_wp2_with fail
        refine HUN.out.mono ?_
        rintro e w11 ⟨V2, c2, y2, rfl, hy2, hO2, hb11⟩
        have HB11 := Lib.hid (HB10.out.trans (hb11.mono HB10.out.size))
        have HY2 := Lib.hid hy2
        have HO2 := Lib.hid hO2
        have HBB11 := Lib.hid hb11
        generalize st.undE who n = ue at *
        have HER := Lib.hid (error_any w11 ue ue (HGL.out.below (HBWC.out.trans (HB11.out.mono HBWC.out.size)) (Nat.le_refl _)))
        rw [show (ue == ue) = true by simp] at HER
        clear hy2 hO2 hb11 HUN
        go_wp2_with fail
        refine HER.out.mono ?_
        rintro e w12 ⟨rfl, hb12⟩
        have HB12 := Lib.hid (HB11.out.trans (hb12.mono HB11.out.size))
        have HOA := Lib.hid (ops_alike HO2.out hb12 HO1.out (HBB11.out.trans (hb12.mono HBB11.out.size)) (by rw [HY1.out, HY2.out]))
        clear hb12 HER
        go_wp2_with fail
        refine HOA.out.mono ?_
        rintro e w13 ⟨rfl, hb13⟩
        have HBF : Hid (Below w.heap.size w w13) := HBWC.out.trans ((HB12.out.trans (hb13.mono HB12.out.size)).mono HBWC.out.size)
        clear hb13 HOA
        go_wp2_with fail
        go_ret
        exact ⟨rfl, HBF.out⟩
      · have h8 : 8 < who := by omega
        have d1 : decide (who ≥ 1) = true := decide_eq_true (by omega)
        have d8 : decide (who ≤ 8) = false := decide_eq_false (by omega)
        clear hh
        go_wp2_with fail
        rw [← hW1]
        clear hW1
        rw [HLE1.out]
        have HLA := HLA1
        clear HLA1 HLE1 HLE HLR
        refine HLA.out.mono ?_
        rintro e w6 ⟨A, c, rfl, hO, hb6⟩
        have HO := Lib.hid hO
        have HBW6 := Lib.hid hb6
        have HB6 := Lib.hid (HBR.out.trans (hb6.mono HBR.out.size))
        have HWX6 := Lib.hid (HWX.out.below hb6 HWX.out.lt)
        clear hO hb6 HLA
        generalize hlo : st.lastR who = lo at *
        generalize hle2 : st.lastE who = le at *
        have HLO := Lib.hid hlo
        have HLEE := Lib.hid hle2
        clear hlo hle2
        obtain ⟨⟨lw, ln⟩, lh, lp, ll, ls⟩ := lo
        unfold LOp.val
        unfold LOp.cells at HWX6
        try dsimp only at HO
        try dsimp only at HWX6
        try dsimp only at HSN
        obtain ⟨W7, hW7⟩ : ∃ W7, W7 = (w6.alloc (.cells #[.int .i64 lw, .int .i64 ln, .int .i64 lh, .string lp, .int .i64 ll, .slice A ls.length c] 30)) := ⟨_, rfl⟩
        have HBX7 : Hid (Blk W7 w6.heap.size 30 #[.int .i64 lw, .int .i64 ln, .int .i64 lh, .string lp, .int .i64 ll, .slice A ls.length c]) := by rw [hW7]; exact Blk.new _ _ _
        have HBB7 : Hid (Below w6.heap.size w6 W7) := by rw [hW7]; exact (Below.refl _ w6).alloc (Nat.le_refl _) _
        have HB7 := Lib.hid (HB6.out.trans (HBB7.out.mono HB6.out.size))
        have HW7 := Lib.hid (HWX6.out.below HBB7.out HWX6.out.lt)
        have HER := Lib.hid (error_any W7 le le (HGL.out.below (HBWC.out.trans (HB7.out.mono HBWC.out.size)) (Nat.le_refl _)))
        rw [show (le == le) = true by simp] at HER
        go_wp2_with fail
        rw [← hW7]
        clear hW7
        refine HER.out.mono ?_
        rintro e w8 ⟨rfl, hb8⟩
        have HB8 := Lib.hid (HB7.out.trans (hb8.mono HB7.out.size))
        have HX8 := Lib.hid (HBX7.out.below hb8 HBX7.out.lt)
        have HW8 := Lib.hid (HW7.out.below hb8 HW7.out.lt)
        have HBW8 : Hid (Below W1.heap.size W1 w8) := HBW6.out.trans ((HBB7.out.trans (hb8.mono HBB7.out.size)).mono HBW6.out.size)
        have HBO8 : Hid (Below w6.heap.size w6 w8) := HBB7.out.trans (hb8.mono HBB7.out.size)
        have HTW8 := Lib.hid (HTW.out.step HB8.out)
        have HSL : Hid (ls.length ≤ 9223372036854775807) := by
          have h3 := HO.out.cap_le
          have h4 := HO.out.cap_max
          unfold maxLen at h4
          show _ ≤ _
          try dsimp only at h3
          omega
        have HRY : Hid (Reads w8 w8.heap.size 2 none ls.length (dcells ls)) := by
          rcases HSN.out with h | ⟨y, hy, hya, hyo⟩
          · subst h; exact ⟨rfl, fun h => absurd h (by simp)⟩
          · have := (HTW8.out.two.seen y hy).row
            rw [← hyo, ← hya] at this
            exact this
        have HSO := Lib.hid (SameOp.any w8 ⟨⟨lw, ln⟩, lh, lp, ll, ls⟩ ⟨⟨lw, ln⟩, lh, lp, ll, ls⟩ A none c 0 ((HO.out.below HBO8.out).reads) HRY.out HSL.out HSL.out)
        rw [decide_eq_true rfl] at HSO
        unfold LOp.val at HSO
        try dsimp only at HSO
        have x0 : w8.cell? ⟨w6.heap.size, 0, none⟩ = some (.int .i64 lw) := by rw [HX8.out.cell]; rfl
        have x1 : w8.cell? ⟨w6.heap.size, 1, none⟩ = some (.int .i64 ln) := by rw [HX8.out.cell]; rfl
        have x2 : w8.cell? ⟨w6.heap.size, 2, none⟩ = some (.int .i64 lh) := by rw [HX8.out.cell]; rfl
        have x3 : w8.cell? ⟨w6.heap.size, 3, none⟩ = some (.string lp) := by rw [HX8.out.cell]; rfl
        have x4 : w8.cell? ⟨w6.heap.size, 4, none⟩ = some (.int .i64 ll) := by rw [HX8.out.cell]; rfl
        have x5 : w8.cell? ⟨w6.heap.size, 5, none⟩ = some (.slice A ls.length c) := by rw [HX8.out.cell]; rfl
        have z0 : w8.cell? ⟨wc.heap.size, 0, none⟩ = some (.int .i64 lw) := by rw [HW8.out.cell]; rfl
        have z1 : w8.cell? ⟨wc.heap.size, 1, none⟩ = some (.int .i64 ln) := by rw [HW8.out.cell]; rfl
        have z2 : w8.cell? ⟨wc.heap.size, 2, none⟩ = some (.int .i64 lh) := by rw [HW8.out.cell]; rfl
        have z3 : w8.cell? ⟨wc.heap.size, 3, none⟩ = some (.string lp) := by rw [HW8.out.cell]; rfl
        have z4 : w8.cell? ⟨wc.heap.size, 4, none⟩ = some (.int .i64 ll) := by rw [HW8.out.cell]; rfl
        have z5 : w8.cell? ⟨wc.heap.size, 5, none⟩ = some (.slice none ls.length 0) := by rw [HW8.out.cell]; rfl
        clear hb8 HER
        go_wp2_with fail
        refine HSO.out.mono ?_
        rintro e w9 ⟨rfl, hb9⟩
        have HB9 := Lib.hid (HB8.out.trans (hb9.mono HB8.out.size))
        have HTW9 := Lib.hid (HTW.out.step HB9.out)
        have HRU := Lib.hid (rundo_any w9 _ _ _ _ _ HTW9.out.two OK.out who n)
        clear hb9 HSO x0 x1 x2 x3 x4 x5 z0 z1 z2 z3 z4 z5
        go_wp2_with fail
        refine HRU.out.mono ?_
        rintro e w10 ⟨V1, c1, y1, rfl, hy1, hO1, hb10⟩
        have HB10 := Lib.hid (HB9.out.trans (hb10.mono HB9.out.size))
        have HTW10 := Lib.hid (HTW.out.step HB10.out)
        have HY1 := Lib.hid hy1
        have HO1 := Lib.hid hO1
        have HUN := Lib.hid (undo_any w10 _ _ _ _ _ HTW10.out.one OK.out who n hw0 hw1)
        clear hy1 hO1 hb10 HRU
        go_wp2_with fail
        refine HUN.out.mono ?_
        rintro e w11 ⟨V2, c2, y2, rfl, hy2, hO2, hb11⟩
        have HB11 := Lib.hid (HB10.out.trans (hb11.mono HB10.out.size))
        have HY2 := Lib.hid hy2
        have HO2 := Lib.hid hO2
        have HBB11 := Lib.hid hb11
        generalize st.undE who n = ue at *
        have HER := Lib.hid (error_any w11 ue ue (HGL.out.below (HBWC.out.trans (HB11.out.mono HBWC.out.size)) (Nat.le_refl _)))
        rw [show (ue == ue) = true by simp] at HER
        clear hy2 hO2 hb11 HUN
        go_wp2_with fail
        refine HER.out.mono ?_
        rintro e w12 ⟨rfl, hb12⟩
        have HB12 := Lib.hid (HB11.out.trans (hb12.mono HB11.out.size))
        have HOA := Lib.hid (ops_alike HO2.out hb12 HO1.out (HBB11.out.trans (hb12.mono HBB11.out.size)) (by rw [HY1.out, HY2.out]))
        clear hb12 HER
        go_wp2_with fail
        refine HOA.out.mono ?_
        rintro e w13 ⟨rfl, hb13⟩
        have HBF : Hid (Below w.heap.size w w13) := HBWC.out.trans ((HB12.out.trans (hb13.mono HB12.out.size)).mono HBWC.out.size)
        clear hb13 HOA
        go_wp2_with fail
        go_ret
        exact ⟨rfl, HBF.out⟩
set_option maxRecDepth 100000 in
theorem lifted (os : Os) (started : os.Started) (H : Type) (enc : TypeId × Value → H) :
    ReturnsInHanded {} Tryz.checked os 4 .any (fun w args => (Rows.backTellsSpec.pre enc Tryz.prog Tryz.f4 [] false w args ∧ laidMetH Tryz.prog Card.laid w) ∧ sizedMet enc Tryz.prog Tryz.f4 (OpenSpec.ofChange Rows.backTellsSpec) false w args)
      (Rows.backTellsSpec.post enc Tryz.prog Tryz.f4 false true false false) := by
  refine returnsInHanded_of_change_and (C := Tryz.checked) (X := fun w _ => laidMetH Tryz.prog Card.laid w) (fun _ _ _ hh h => h.of_heap hh) Tryz.own started (by kernel_rfl) Tryz.func4
    (ChangeSpec.witness_at (enc := enc) (C := Tryz.checked) (os := os) (X := fun w _ => laidMetH Tryz.prog Card.laid w) false (Card.laidWorld os) #[.slice none 0 0, .int .i64 0, .int .i64 0] 8 rfl (by kernel_rfl) (by kernel_rfl) (by kernel_rfl) (by kernel_rfl) (by kernel_rfl) (Card.laidWorld_met os _)) ?_
  intro W base args ds gs before hval0 hW _ hsz0 hL _
  have hval : ∀ (j : Nat) t v, Tryz.f4.params[j]? = some t → args[j]? = some v → Value.okWide Tryz.prog W .any base t v := hval0
  obtain ⟨p, q, hA0, _⟩ := id hW
  have hA : DataW.TrodAll enc Tryz.prog W 0 (fun _ => true) true Tryz.f4.params.toList args.toList ds p := hA0
  have hsz : (DataW.weightsEach Tryz.prog (Tryz.f4.params.toList ++ Rows.backTellsSpec.plain.varTypes Tryz.prog) (ds ++ gs)).all (· ≤ reachBytes) = true := hsz0
  rw [Tryz.params4] at hA hval hsz
  obtain ⟨v0, v1, v2, d0, d1, d2, p0, p1, p2, rfl, rfl, rfl, h0, h1, h2⟩ := trodAll_three hA
  obtain ⟨A0, c0, l0, rfl, r0, g0, lc0, cm0⟩ := arg_ops (hval 0 22 v0 rfl rfl) h0
  obtain ⟨a1, rfl, rfl, rfl, wa1⟩ := open_int Tryz.underlying3 (hval 1 3 v1 rfl rfl) h1
  obtain ⟨a2, rfl, rfl, rfl, wa2⟩ := open_int Tryz.underlying3 (hval 2 3 v2 rfl rfl) h2
  refine (walk W A0 c0 l0 a1 a2 (Card.glob_of_laid hL) r0 g0 (by unfold maxLen at cm0; omega) (i64_of_wf wa1).1 (i64_of_wf wa1).2).mono fun e W' ⟨he, hb⟩ => ⟨_, he, ?_⟩
  exact law_post Tryz.laidOut (tb := 4) (by kernel_rfl) Tryz.underlying4 (by rw [Tryz.params4]; simp only [List.mem_cons, List.not_mem_nil, or_false]; rintro t (rfl | rfl | rfl) <;> exact ⟨by kernel_rfl, of_decide_eq_true (by kernel_rfl)⟩) rfl rfl hW hb

theorem holds : Rows.BackTellsSaid :=
  OpenClaim.holds_of_wide 4 Tryz.f4 rfl rfl rfl rfl rfl rfl rfl ⟨rfl, rfl, rfl, rfl, rfl⟩ rfl rfl rfl rfl rfl (by kernel_rfl) Tryz.func4 (by kernel_rfl)
    (of_decide_eq_true (by kernel_rfl)) (by unfold Func.isWrapper; first | (rw [if_pos (by decide +kernel)]; kernel_rfl) | (rw [if_neg (by decide +kernel)]; exact ⟨rfl, rfl⟩))
    (fun os started H enc _ => lifted os started H enc)
theorem noStand : ∀ t ∈ Tryz.f4.params.toList, Tryz.prog.wantsStandIn t = false := by
  rw [Tryz.params4]
  simp only [List.mem_cons, List.not_mem_nil, or_false]
  rintro t (rfl | rfl | rfl) <;> kernel_rfl
theorem card_holds : Rows.BackTellsCardSaid :=
  Claim7.holds_tied_plain_at .later [] [.handle] true Rows.backTellsCard.stood.harness true
    holds (fun _ h => by cases h) (by kernel_rfl) (fun _ h => by cases h) backTells_row_tie rfl ⟨rfl, rfl⟩ (by kernel_rfl) rfl
    (fun f fn hf hfn => by
      obtain rfl : f = 4 := Option.some.inj ((show Tryz.prog.funcNamed Rows.backTellsRow.func = some 4 by kernel_rfl).symm.trans hf) |>.symm
      obtain rfl : fn = Tryz.f4 := (Option.some.inj (Tryz.func4.symm.trans hfn)).symm
      exact ⟨by kernel_rfl, fun j t ht => noStand t (by
        have := Array.mem_of_getElem? ht
        simpa using this)⟩)
    (by kernel_rfl)
#print axioms card_holds
end lawBackTells
end Go.Proofs.YtngalkmmpjegkaaGreatDoor

/- 13 texts in one: each says ahead of itself what is proved, and its conditions. -/
import Derived.Below
import Derived.ChangeSame
import Derived.ChangeVars
import Derived.Deep.CutBlock
import Derived.Deep.DeepCutAuto
import Derived.Deep.RegionHeld3
import Derived.JoinedOf
import Derived.LaidEql
import Derived.LaidHandle
import Derived.LaidLaws
import Derived.ProofKit
import Derived.RowKit
import Derived.RowKitTokens
import Derived.SevenTiedAt
import Derived.SizedLaws
import Derived.Stop.Asserts
import Derived.Test.YtgmdnmdniidngaaGreatDoorCards
import Derived.Test.YtgmdnmdniidngaaGreatDoorRows
import Derived.Test.YtgmdnmdniidngaaGreatDoorTie
import Derived.WalkKit
import Derived.Test.YtgmdnmdniidngaaGreatDoorDocHelp
import Derived.Test.YtgmdnmdniidngaaGreatDoorDocKnown
import Derived.Test.YtgmdnmdniidngaaGreatDoorDocOps
import Derived.Test.YtgmdnmdniidngaaGreatDoorDocRow
import Derived.Test.YtgmdnmdniidngaaGreatDoorOpen
import Derived.Test.YtgmdnmdniidngaaGreatDoorOpenOps
import Derived.Test.YtgmdnmdniidngaaGreatDoorPlaceCheck
import Derived.Test.YtgmdnmdniidngaaGreatDoorRefApply
import Derived.Test.YtgmdnmdniidngaaGreatDoorRefText
import Derived.Test.YtgmdnmdniidngaaGreatDoorRise
import Derived.Test.YtgmdnmdniidngaaGreatDoorSame0
import Derived.Test.YtgmdnmdniidngaaGreatDoorStrs
/- leafsame.Dots, walked. Conditions: few elements. -/
namespace Go.Proofs.YtgmdnmdniidngaaGreatDoor
open Go.RowKit
set_option linter.unusedVariables false
namespace SameDots
instance dec : DecidableEq LDot := fun a b => by
  cases a; cases b
  simp only [LDot.mk.injEq]
  exact inferInstance
set_option maxRecDepth 100000 in
theorem eq_one (W : World) (x0 y0 : Int) (x1 y1 : Int) : (Op.equalIn 10000 30 (.agg #[.int .i64 x0, .int .i64 x1]) (.agg #[.int .i64 y0, .int .i64 y1])).run Tryz.prog W = .ok (x0 == y0 && (x1 == y1)) W := by
  have ui := Tryz.underlying3
  have hS : Tryz.prog.underlying 30 = some (.struct (Tryz.prog.fieldsOf 30)) := by kernel_rfl
  have hp : Tryz.prog.stoodInHeld 30 = false := by kernel_rfl
  rw [show (10000 : Nat) = 9999 + 1 from rfl, run_equalIn_agg W 9999 30 _ _ hS hp]
  simp only [Program.fieldsOf, Tryz.underlying30]
  go_simp
  by_cases h0 : x0 = y0 <;> by_cases h1 : x1 = y1 <;> simp [h0, h1]
theorem same_one {x0 y0 : Int} {x1 y1 : Int} : (x0 == y0 && (x1 == y1)) = decide ((⟨x0, x1⟩ : LDot) = ⟨y0, y1⟩) := by
  rw [Bool.eq_iff_iff]
  simp only [Bool.and_eq_true, beq_iff_eq, decide_eq_true_eq, LDot.mk.injEq]
def Loop (w : World) (l m : List LDot) (i : Value) (wr : World) : Prop :=
  ∃ k : Nat, k ≤ l.length ∧ i = .int .i64 k ∧ Hid (Below w.heap.size w wr) ∧ Hid (decide (l = m) = decide (l.drop k = m.drop k))
set_option maxRecDepth 100000 in
set_option maxHeartbeats 1000000 in
theorem any_big (w : World) (A G : Option Addr) (ca cg : Nat) (l m : List LDot) (h1 : Reads w w.heap.size 2 A l.length (dcells l)) (h2 : Reads w w.heap.size 2 G m.length (dcells m)) (hl : l.length ≤ 9223372036854775807) (hm : m.length ≤ 9223372036854775807) :
    Calls Tryz.prog 56 #[.slice A l.length ca, .slice G m.length cg] w (SamePost w (decide (l = m))) := by
  have HR := Lib.hid h1
  have HS := Lib.hid h2
  clear h1 h2
  by_cases hlm : l.length = m.length
  · have HLM := Lib.hid hlm
    have e0 : ((l.length : Int) != (m.length : Int)) = false := by simp [hlm]
    have e1 : ((l.length : Int) == (m.length : Int)) = true := by simp [hlm]
    clear hlm
    go_enter Tryz.func56, Tryz.ntmps56
    go_wp2_with fail
    go_loopw [5] (fun i wr => Loop w l m i wr) (fun i _ => l.length - (intOf i).toNat)
    case atStart => exact ⟨0, by omega, rfl, Below.refl _ _, Lib.hid rfl⟩
    case round =>
      obtain ⟨k, hk, rfl, HB, HE⟩ := hrel
      by_cases hkn : k < l.length
      · have hkm : k < m.length := by have := HLM.out; omega
        obtain ⟨ad, hA, _, c0, c1⟩ := (HR.out.below HB.out).dot hkn
        obtain ⟨ag, hG, _, g0, g1⟩ := (HS.out.below HB.out).dot hkm
        have k1 : (k : Int) < (l.length : Int) := by omega
        have k2 : (k : Int) < (m.length : Int) := by omega
        have k0 : (0 : Int) ≤ (k : Int) := by omega
        subst hA hG
        have hdr : (l.drop k = m.drop k) = (l[k] = m[k] ∧ l.drop (k + 1) = m.drop (k + 1)) := by
          rw [List.drop_eq_getElem_cons hkn, List.drop_eq_getElem_cons hkm, List.cons.injEq]
        have HDR := Lib.hid hdr
        clear hdr
        generalize l[k] = x at *
        generalize m[k] = y at *
        obtain ⟨x0, x1⟩ := x
        obtain ⟨y0, y1⟩ := y
        simp only at c0 c1 g0 g1
        by_cases hxy : (⟨x0, x1⟩ : LDot) = ⟨y0, y1⟩
        · have HN : Hid (decide (l = m) = decide (l.drop (k + 1) = m.drop (k + 1))) := by
            show _ = _
            rw [HE.out]; congr 1; rw [HDR.out]; simp [hxy]
          have hq : ∀ W, (Op.equalIn 10000 30 (.agg #[.int .i64 x0, .int .i64 x1]) (.agg #[.int .i64 y0, .int .i64 y1])).run Tryz.prog W = .ok true W := fun W => by rw [eq_one, same_one, decide_eq_true hxy]
          clear HDR HE hxy
          go_wp2_with fail
          go_quiet (fail)
          go_wp2_with fail
          go_roundw
          case rel => exact ⟨k + 1, by omega, by go_num, below_drewN HB.out _, HN⟩
          case measure => simp [intOf]; omega
        · have HN : Hid (decide (l = m) = false) := by
            show _ = _
            rw [HE.out, decide_eq_false_iff_not, HDR.out]; exact fun h => hxy h.1
          have hq : ∀ W, (Op.equalIn 10000 30 (.agg #[.int .i64 x0, .int .i64 x1]) (.agg #[.int .i64 y0, .int .i64 y1])).run Tryz.prog W = .ok false W := fun W => by rw [eq_one, same_one, decide_eq_false hxy]
          clear HDR HE hxy
          go_wp2_with fail
          go_quiet (fail)
          go_wp2_with fail
          go_ret
          exact ⟨by rw [HN.out]; rfl, below_drewN HB.out _⟩
      · have HN : Hid (decide (l = m) = true) := by
          show _ = _
          rw [HE.out, List.drop_of_length_le (by omega), List.drop_of_length_le (by have := HLM.out; omega)]; rfl
        have hd : decide ((k : Int) < (l.length : Int)) = false := by simp; omega
        go_wp2_with fail
        go_ret
        exact ⟨by rw [HN.out]; rfl, HB.out⟩
  · have HF : Hid (decide (l = m) = false) := decide_eq_false (fun h => hlm (by rw [h]))
    have e0 : ((l.length : Int) != (m.length : Int)) = true := by simp; omega
    have e1 : ((l.length : Int) == (m.length : Int)) = false := by simp; omega
    clear hlm
    go_enter Tryz.func56, Tryz.ntmps56
    go_wp2_with fail
    go_ret
    exact ⟨by rw [HF.out]; rfl, Below.refl _ _⟩
theorem any (w : World) (A G : Option Addr) (ca cg : Nat) (l m : List LDot) (h1 : Reads w w.heap.size 2 A l.length (dcells l)) (h2 : Reads w w.heap.size 2 G m.length (dcells m)) (hl : l.length ≤ 1000000) (hm : m.length ≤ 1000000) :
    Calls Tryz.prog 56 #[.slice A l.length ca, .slice G m.length cg] w (SamePost w (decide (l = m))) := any_big w A G ca cg l m h1 h2 (by omega) (by omega)
end SameDots
end Go.Proofs.YtgmdnmdniidngaaGreatDoor
/- leafsame.Op, leafsame.Ops, walked. Conditions: few elements. -/
namespace Go.Proofs.YtgmdnmdniidngaaGreatDoor
open Go.RowKit
set_option linter.unusedVariables false
namespace SameOp
instance dec : DecidableEq LOp := fun a b => by
  obtain ⟨⟨a0, a1⟩, a2, a3, a4, a5⟩ := a
  obtain ⟨⟨b0, b1⟩, b2, b3, b4, b5⟩ := b
  simp only [LOp.mk.injEq, LDot.mk.injEq]
  exact inferInstance
theorem beq_str {x y : ByteArray} : (x.toList == y.toList) = decide (x = y) := by
  rw [Bool.eq_iff_iff, beq_iff_eq, decide_eq_true_iff, same_toList]
set_option maxRecDepth 100000 in
set_option maxHeartbeats 2000000 in
theorem any (w : World) (x y : LOp) (A G : Option Addr) (ca cg : Nat) (h1 : Reads w w.heap.size 2 A x.seen.length (dcells x.seen)) (h2 : Reads w w.heap.size 2 G y.seen.length (dcells y.seen)) (hl : x.seen.length ≤ 9223372036854775807) (hm : y.seen.length ≤ 9223372036854775807) :
    Calls Tryz.prog 23 #[x.val A ca, y.val G cg] w (SamePost w (decide (x = y))) := by
  obtain ⟨W0, hW0⟩ : ∃ W0, W0 = (w.alloc (.cells (x.cells A ca) 33)).alloc (.cells (y.cells G cg) 33) := ⟨_, rfl⟩
  have hb0 : Below w.heap.size w W0 := by rw [hW0]; exact ((Below.refl _ _).alloc (Nat.le_refl _) _).alloc (by simp) _
  have HB0 := Lib.hid hb0
  have hs0 : (w.alloc (.cells (x.cells A ca) 33)).heap.size = w.heap.size + 1 := by simp
  have bx : Blk W0 w.heap.size 33 (x.cells A ca) := by rw [hW0]; exact (Blk.new w _ _).alloc _
  have by_ : Blk W0 (w.heap.size + 1) 33 (y.cells G cg) := by rw [hW0]; unfold Blk; rw [← hs0]; exact heap_alloc_new _ _
  have HC := Lib.hid (SameDots.any_big W0 A G ca cg x.seen y.seen ((h1.below hb0).more hb0.size) ((h2.below hb0).more hb0.size) hl hm)
  have HCX : Hid (∀ W, Below W0.heap.size W0 W → W.cell? ⟨w.heap.size, 0, none⟩ = some (.int .i64 x.dot.who) ∧ W.cell? ⟨w.heap.size, 1, none⟩ = some (.int .i64 x.dot.n) ∧ W.cell? ⟨w.heap.size, 2, none⟩ = some (.int .i64 x.what) ∧ W.cell? ⟨w.heap.size, 3, none⟩ = some (.string x.place) ∧ W.cell? ⟨w.heap.size, 4, none⟩ = some (.int .i64 x.letter) ∧ W.cell? ⟨w.heap.size, 5, none⟩ = some (.slice A x.seen.length ca)) := fun W hb => by
    have h := bx.below hb bx.lt
    exact ⟨h.cell 0, h.cell 1, h.cell 2, h.cell 3, h.cell 4, h.cell 5⟩
  have HCY : Hid (∀ W, Below W0.heap.size W0 W → W.cell? ⟨w.heap.size + 1, 0, none⟩ = some (.int .i64 y.dot.who) ∧ W.cell? ⟨w.heap.size + 1, 1, none⟩ = some (.int .i64 y.dot.n) ∧ W.cell? ⟨w.heap.size + 1, 2, none⟩ = some (.int .i64 y.what) ∧ W.cell? ⟨w.heap.size + 1, 3, none⟩ = some (.string y.place) ∧ W.cell? ⟨w.heap.size + 1, 4, none⟩ = some (.int .i64 y.letter) ∧ W.cell? ⟨w.heap.size + 1, 5, none⟩ = some (.slice G y.seen.length cg)) := fun W hb => by
    have h := by_.below hb by_.lt
    exact ⟨h.cell 0, h.cell 1, h.cell 2, h.cell 3, h.cell 4, h.cell 5⟩
  have HQ := Lib.hid (fun W => SameDots.eq_one W x.dot.who y.dot.who x.dot.n y.dot.n)
  have HX : Hid (x = y ↔ x.seen = y.seen ∧ (x.dot.who = y.dot.who ∧ x.dot.n = y.dot.n) ∧ x.what = y.what ∧ x.place = y.place ∧ x.letter = y.letter) := by
    obtain ⟨⟨a, b⟩, c, d, e, f⟩ := x
    obtain ⟨⟨a', b'⟩, c', d', e', f'⟩ := y
    show _ ↔ _
    simp only [LOp.mk.injEq, LDot.mk.injEq]
    constructor
    · rintro ⟨⟨h1, h2⟩, h3, h4, h5, h6⟩; exact ⟨h6, ⟨h1, h2⟩, h3, h4, h5⟩
    · rintro ⟨h6, ⟨h1, h2⟩, h3, h4, h5⟩; exact ⟨⟨h1, h2⟩, h3, h4, h5, h6⟩
  have hfin : ∀ b : Bool, (b = true ↔ x = y) → decide (x = y) = b := fun b h => by
    rw [Bool.eq_iff_iff, decide_eq_true_iff]; exact h.symm
  have HFIN := Lib.hid hfin
  clear h1 h2 bx by_ hb0 hfin
  obtain ⟨⟨xw, xn⟩, xa, xp, xl, xs⟩ := x
  obtain ⟨⟨yw, yn⟩, ya, yp, yl, ys⟩ := y
  unfold LOp.val
  unfold LOp.cells at hW0
  simp only at hW0 HC HCX HCY HQ HX HFIN hl hm ⊢
  have HBR : Hid (Below W0.heap.size W0 W0) := Below.refl _ _
  obtain ⟨c0, c1, c2, c3, c4, c5⟩ := HCX.out _ HBR.out
  obtain ⟨d0, d1, d2, d3, d4, d5⟩ := HCY.out _ HBR.out
  go_enter Tryz.func23, Tryz.ntmps23
  go_wp2_with fail
  rw [← hW0]
  clear hW0
  refine HC.out.mono ?_
  rintro e w2 ⟨rfl, hb⟩
  have HB2 := Lib.hid (HB0.out.trans (hb.mono HB0.out.size))
  clear c0 c1 c2 c3 c4 c5 d0 d1 d2 d3 d4 d5
  obtain ⟨c0, c1, c2, c3, c4, c5⟩ := HCX.out _ hb
  obtain ⟨d0, d1, d2, d3, d4, d5⟩ := HCY.out _ hb
  clear hb HC HCX HCY
  by_cases hs : xs = ys
  · rw [decide_eq_true hs]
    have HS := Lib.hid hs
    clear hs
    by_cases hd : xw = yw ∧ xn = yn
    · have hq : ∀ W, (Op.equalIn 10000 30 (.agg #[.int .i64 xw, .int .i64 xn]) (.agg #[.int .i64 yw, .int .i64 yn])).run Tryz.prog W = .ok true W := fun W => by rw [HQ.out W]; simp [hd.1, hd.2]
      have HD := Lib.hid hd
      clear hd
      by_cases ha : xa = ya
      · have g1 : (xa == ya) = true := by rw [beq_iff_eq]; exact ha
        have HA := Lib.hid ha
        clear ha
        by_cases hp : xp = yp
        · have g2 : (xp.toList == yp.toList) = true := by rw [beq_str, decide_eq_true hp]
          have HP := Lib.hid hp
          clear hp
          by_cases hl : xl = yl
          · have g3 : (xl == yl) = true := by rw [beq_iff_eq]; exact hl
            have HF := Lib.hid (HFIN.out true ⟨fun _ => HX.out.2 ⟨HS.out, HD.out, HA.out, HP.out, hl⟩, fun _ => rfl⟩)
            clear hl
            go_wp2_with fail
            go_ret
            exact ⟨by rw [HF.out]; rfl, HB2.out⟩
          · have g3 : (xl == yl) = false := by rw [beq_eq_false_iff_ne]; exact hl
            have HF := Lib.hid (HFIN.out false ⟨(fun h => nomatch h), fun h => absurd (HX.out.1 h).2.2.2.2 hl⟩)
            clear hl
            go_wp2_with fail
            go_ret
            exact ⟨by rw [HF.out]; rfl, HB2.out⟩
        · have g2 : (xp.toList == yp.toList) = false := by rw [beq_str, decide_eq_false hp]
          have HF := Lib.hid (HFIN.out false ⟨(fun h => nomatch h), fun h => absurd (HX.out.1 h).2.2.2.1 hp⟩)
          clear hp
          go_wp2_with fail
          go_ret
          exact ⟨by rw [HF.out]; rfl, HB2.out⟩
      · have g1 : (xa == ya) = false := by rw [beq_eq_false_iff_ne]; exact ha
        have HF := Lib.hid (HFIN.out false ⟨(fun h => nomatch h), fun h => absurd (HX.out.1 h).2.2.1 ha⟩)
        clear ha
        go_wp2_with fail
        go_ret
        exact ⟨by rw [HF.out]; rfl, HB2.out⟩
    · have hq : ∀ W, (Op.equalIn 10000 30 (.agg #[.int .i64 xw, .int .i64 xn]) (.agg #[.int .i64 yw, .int .i64 yn])).run Tryz.prog W = .ok false W := fun W => by
        rw [HQ.out W]
        by_cases h1 : xw = yw
        · have h2 : xn ≠ yn := fun h => hd ⟨h1, h⟩
          simp [h2]
        · simp [h1]
      have HF := Lib.hid (HFIN.out false ⟨(fun h => nomatch h), fun h => absurd (HX.out.1 h).2.1 hd⟩)
      clear hd
      go_wp2_with fail
      go_ret
      exact ⟨by rw [HF.out]; rfl, HB2.out⟩
  · rw [decide_eq_false hs]
    have HF := Lib.hid (HFIN.out false ⟨(fun h => nomatch h), fun h => absurd (HX.out.1 h).1 hs⟩)
    clear hs
    go_wp2_with fail
    go_ret
    exact ⟨by rw [HF.out]; rfl, HB2.out⟩
end SameOp
end Go.Proofs.YtgmdnmdniidngaaGreatDoor
/- leafsame.Ops, walked. Conditions: few elements. -/
namespace Go.Proofs.YtgmdnmdniidngaaGreatDoor
open Go.RowKit
set_option linter.unusedVariables false
namespace SameOps
def Loop (w : World) (l m : List OpAt) (i : Value) (wr : World) : Prop :=
  ∃ k : Nat, k ≤ l.length ∧ i = .int .i64 k ∧ Hid (Below w.heap.size w wr) ∧ Hid (decide (l.map OpAt.op = m.map OpAt.op) = decide ((l.drop k).map OpAt.op = (m.drop k).map OpAt.op))
theorem cells_at {w : World} {B : Nat} {A : Option Addr} {l : List OpAt} (h : Reads w B 6 A l.length (ocells l)) {k : Nat} (hk : k < l.length) : ∃ ad, A = some ad ∧ ad.block < B ∧ ∀ W : World, (∀ q : Addr, q.block = ad.block → W.cell? q = w.cell? q) → W.cell? (ad.add (k * 6)) = some (.int .i64 l[k].op.dot.who) ∧ W.cell? ⟨(ad.add (k * 6)).block, (ad.add (k * 6)).off + 1, none⟩ = some (.int .i64 l[k].op.dot.n) ∧ W.cell? ⟨(ad.add (k * 6)).block, (ad.add (k * 6)).off + 2, none⟩ = some (.int .i64 l[k].op.what) ∧
      W.cell? ⟨(ad.add (k * 6)).block, (ad.add (k * 6)).off + 3, none⟩ = some (.string l[k].op.place) ∧ W.cell? ⟨(ad.add (k * 6)).block, (ad.add (k * 6)).off + 4, none⟩ = some (.int .i64 l[k].op.letter) ∧ W.cell? ⟨(ad.add (k * 6)).block, (ad.add (k * 6)).off + 5, none⟩ = some (.slice l[k].at_ l[k].op.seen.length l[k].cap) := by
  obtain ⟨ad, e, hb, c0, c1, c2, c3, c4, c5⟩ := h.op hk
  refine ⟨ad, e, by simpa [block_of_add] using hb, fun W hW => ⟨(hW _ (block_of_add _ _)).trans c0, (hW ⟨_, _, none⟩ (block_of_add _ _)).trans c1, (hW ⟨_, _, none⟩ (block_of_add _ _)).trans c2, (hW ⟨_, _, none⟩ (block_of_add _ _)).trans c3, (hW ⟨_, _, none⟩ (block_of_add _ _)).trans c4, (hW ⟨_, _, none⟩ (block_of_add _ _)).trans c5⟩⟩
set_option maxRecDepth 100000 in
set_option maxHeartbeats 4000000 in
theorem any (w : World) (A G : Option Addr) (ca cg : Nat) (l m : List OpAt) (h1 : Reads w w.heap.size 6 A l.length (ocells l)) (h2 : Reads w w.heap.size 6 G m.length (ocells m)) (s1 : ∀ y ∈ l, Reads w w.heap.size 2 y.at_ y.op.seen.length (dcells y.op.seen) ∧ y.op.seen.length ≤ 9223372036854775807)
    (s2 : ∀ y ∈ m, Reads w w.heap.size 2 y.at_ y.op.seen.length (dcells y.op.seen) ∧ y.op.seen.length ≤ 9223372036854775807) (hl : l.length ≤ 1000000) (hm : m.length ≤ 1000000) :
    Calls Tryz.prog 18 #[.slice A l.length ca, .slice G m.length cg] w (CheckPost w (.bool (decide (l.map OpAt.op = m.map OpAt.op)))) := by
  have HR := Lib.hid h1
  have HS := Lib.hid h2
  have HSL := Lib.hid s1
  have HSM := Lib.hid s2
  clear h1 h2 s1 s2
  by_cases hlm : l.length = m.length
  · have HLM := Lib.hid hlm
    have e0 : ((l.length : Int) != (m.length : Int)) = false := by simp [hlm]
    have e1 : ((l.length : Int) == (m.length : Int)) = true := by simp [hlm]
    clear hlm
    go_enter Tryz.func18, Tryz.ntmps18
    go_wp2_with fail
    go_loopw [5] (fun i wr => Loop w l m i wr) (fun i _ => l.length - (intOf i).toNat)
    case atStart => exact ⟨0, by omega, rfl, Below.refl _ _, Lib.hid rfl⟩
    case round =>
      obtain ⟨k, hk, rfl, HB, HE⟩ := hrel
      by_cases hkn : k < l.length
      · have hkm : k < m.length := by have := HLM.out; omega
        obtain ⟨ad, rfl, hab, hcl⟩ := cells_at (HR.out.below HB.out) hkn
        obtain ⟨ag, rfl, hag, hcm⟩ := cells_at (HS.out.below HB.out) hkm
        have HCL : Hid (∀ W, Below wr.heap.size wr W → _) := fun W hW => hcl W (fun q hq => hW.cell (by rw [hq]; exact Nat.lt_of_lt_of_le hab HB.out.size))
        have HCM : Hid (∀ W, Below wr.heap.size wr W → _) := fun W hW => hcm W (fun q hq => hW.cell (by rw [hq]; exact Nat.lt_of_lt_of_le hag HB.out.size))
        obtain ⟨c0, c1, c2, c3, c4, c5⟩ := HCL.out wr (Below.refl _ _)
        obtain ⟨g0, g1, g2, g3, g4, g5⟩ := HCM.out wr (Below.refl _ _)
        have k1 : (k : Int) < (l.length : Int) := by omega
        have k2 : (k : Int) < (m.length : Int) := by omega
        have k0 : (0 : Int) ≤ (k : Int) := by omega
        have hdr : ((l.drop k).map OpAt.op = (m.drop k).map OpAt.op) = (l[k].op = m[k].op ∧ (l.drop (k + 1)).map OpAt.op = (m.drop (k + 1)).map OpAt.op) := by
          rw [List.drop_eq_getElem_cons hkn, List.drop_eq_getElem_cons hkm, List.map_cons, List.map_cons, List.cons.injEq]
        have HDR := Lib.hid hdr
        have hx := HSL.out _ (List.getElem_mem hkn)
        have hy := HSM.out _ (List.getElem_mem hkm)
        have HC := Lib.hid (fun W (hW : Below w.heap.size w W) => SameOp.any W l[k].op m[k].op l[k].at_ m[k].at_ l[k].cap m[k].cap ((hx.1.below hW).more hW.size) ((hy.1.below hW).more hW.size) hx.2 hy.2)
        obtain ⟨bb, hbb⟩ : ∃ bb, bb = decide (l[k].op = m[k].op) := ⟨_, rfl⟩
        rw [← hbb] at HC
        have HBB := Lib.hid hbb
        clear hdr hx hy hcl hcm hab hag hbb
        generalize l[k] = x at *
        generalize m[k] = y at *
        obtain ⟨⟨⟨xw, xn⟩, xa, xp, xl, xs⟩, xA, xc⟩ := x
        obtain ⟨⟨⟨yw, yn⟩, ya, yp, yl, ys⟩, yA, yc⟩ := y
        unfold LOp.val at HC
        simp only at HC HDR HBB HCL HCM c0 c1 c2 c3 c4 c5 g0 g1 g2 g3 g4 g5
        go_wp2_with fail
        go_region_held3 (fun w' => (w'.cell? (ad.add (k * 6)) = some (.int .i64 xw) ∧ w'.cell? ⟨(ad.add (k * 6)).block, (ad.add (k * 6)).off + 1, none⟩ = some (.int .i64 xn) ∧ w'.cell? ⟨(ad.add (k * 6)).block, (ad.add (k * 6)).off + 2, none⟩ = some (.int .i64 xa) ∧ w'.cell? ⟨(ad.add (k * 6)).block, (ad.add (k * 6)).off + 3, none⟩ = some (.string xp) ∧ w'.cell? ⟨(ad.add (k * 6)).block, (ad.add (k * 6)).off + 4, none⟩ = some (.int .i64 xl) ∧ w'.cell? ⟨(ad.add (k * 6)).block, (ad.add (k * 6)).off + 5, none⟩ = some (.slice xA xs.length xc) ∧
            w'.cell? (ag.add (k * 6)) = some (.int .i64 yw) ∧ w'.cell? ⟨(ag.add (k * 6)).block, (ag.add (k * 6)).off + 1, none⟩ = some (.int .i64 yn) ∧ w'.cell? ⟨(ag.add (k * 6)).block, (ag.add (k * 6)).off + 2, none⟩ = some (.int .i64 ya) ∧ w'.cell? ⟨(ag.add (k * 6)).block, (ag.add (k * 6)).off + 3, none⟩ = some (.string yp) ∧ w'.cell? ⟨(ag.add (k * 6)).block, (ag.add (k * 6)).off + 4, none⟩ = some (.int .i64 yl) ∧ w'.cell? ⟨(ag.add (k * 6)).block, (ag.add (k * 6)).off + 5, none⟩ = some (.slice yA ys.length yc)))
          (first | go_keep | (refine ⟨?_, ?_, ?_, ?_, ?_, ?_, ?_, ?_, ?_, ?_, ?_, ?_⟩ <;> assumption))
          ((go_at_call 23; refine (HC.out _ (by first | exact HB.out | exact below_drewN HB.out _ | exact HB.out.drew)).mono ?_; rintro e w3 ⟨rfl, hb3⟩
            have hbw : Below wr.heap.size wr w3 := by first | exact hb3 | exact below_of_drewN (n := 1) hb3
            have HB3 : Hid (Below w.heap.size w w3) := HB.out.trans (hbw.mono HB.out.size)
            clear c0 c1 c2 c3 c4 c5 g0 g1 g2 g3 g4 g5
            obtain ⟨c0, c1, c2, c3, c4, c5⟩ := HCL.out _ hbw
            obtain ⟨g0, g1, g2, g3, g4, g5⟩ := HCM.out _ hbw
            clear hb3 hbw))
        cases bb with
        | true =>
          have HEN : Hid (decide (l.map OpAt.op = m.map OpAt.op) = decide ((l.drop (k + 1)).map OpAt.op = (m.drop (k + 1)).map OpAt.op)) := by
            show _ = _
            rw [HE.out]
            rw [Bool.eq_iff_iff, decide_eq_true_iff, decide_eq_true_iff, HDR.out]
            exact ⟨fun h => h.2, fun h => ⟨of_decide_eq_true HBB.out.symm, h⟩⟩
          clear HDR HE HBB
          go_wp2_with fail
          go_roundw
          case rel => exact ⟨k + 1, by omega, by go_num, HB3, HEN⟩
          case measure => simp [intOf]; omega
        | false =>
          have HEN : Hid (decide (l.map OpAt.op = m.map OpAt.op) = false) := by
            show _ = _
            rw [HE.out, decide_eq_false_iff_not, HDR.out]
            exact fun h => of_decide_eq_false HBB.out.symm h.1
          clear HDR HE HBB
          go_wp2_with fail
          go_ret
          exact ⟨by rw [HEN.out]; rfl, HB3.out⟩
      · have k1 : ¬ (k : Int) < (l.length : Int) := by omega
        have HEN : Hid (decide (l.map OpAt.op = m.map OpAt.op) = true) := by
          show _ = _
          rw [HE.out, List.drop_of_length_le (by omega), List.drop_of_length_le (by have := HLM.out; omega)]
          rfl
        go_wp2_with fail
        go_ret
        exact ⟨by rw [HEN.out]; rfl, HB.out⟩
  · have e0 : ((l.length : Int) != (m.length : Int)) = true := by simp; omega
    have HEN : Hid (decide (l.map OpAt.op = m.map OpAt.op) = false) := by
      show _ = _
      rw [decide_eq_false_iff_not]
      intro h
      have := congrArg List.length h
      simp at this
      exact hlm this
    clear hlm
    go_enter Tryz.func18, Tryz.ntmps18
    go_wp2_with fail
    go_ret
    exact ⟨by rw [HEN.out]; rfl, Below.refl _ _⟩
end SameOps
end Go.Proofs.YtgmdnmdniidngaaGreatDoor
/- From a walk to a given statement: one theorem that serves every law of the seat. Conditions: none of our own. -/
namespace Go.Proofs.YtgmdnmdniidngaaGreatDoor
open Go.RowKit Go.WideShapes Go.ChangeShapes Go.ChangeAt
set_option linter.unusedVariables false

section
variable {H : Type} {enc : TypeId × Value → H} {P : Program}

theorem post_of_below {f : Func} {s : ChangeSpec} {apart fresh handsOn again : Bool} {W W' : World} {args : Array Value} {v : Value} {ds gs : List (DataW H)} {before pa pv : List MemPlace}
    (hW : DataW.Whole enc P f.params.toList s.vars apart W args.toList ds gs before)
    (hres : ∀ (b : Nat) (sp : Nat → Bool) (hd : Bool), DataW.TrodAll enc P W' b sp hd f.resultTypes.toList (v.resultList f.resultTypes.size) (s.fn H (ds ++ gs)).results [])
    (hargs : ∀ sp : Nat → Bool, (∀ p ∈ before, sp p.block = true) → DataW.TrodAll enc P W' 0 sp true f.params.toList args.toList (s.fn H (ds ++ gs)).args pa)
    (hvars : ∀ sp : Nat → Bool, (∀ p ∈ before, sp p.block = true) → DataW.TrodVars enc P W' sp s.vars (s.fn H (ds ++ gs)).vars pv)
    (hps : before = pa ++ pv) (hb : Below W.heap.size W W')
    (hok : ∀ (j : Nat) (t : TypeId) (r : Value), f.resultTypes[j]? = some t → (v.resultList f.resultTypes.size)[j]? = some r → Value.okWide P W' .any 0 t r) :
    s.post enc P f apart fresh handsOn again W args v W' := by
  have hlt : ∀ p ∈ before, p.block < W.heap.size := fun p hp => hW.lt p hp
  have hold : ∀ p ∈ before, (fun b => decide (b < W.heap.size)) p.block = true := fun p hp => by simpa using hlt p hp
  refine ⟨ds, gs, before, [], pa, pv, hW, hres _ _ _, hargs _ hold, hvars _ hold, World.keptBut_mono (fun p hp => ⟨hp, ?_⟩) (hb.frame (· ∈ before)), fun _ => ?_⟩
  · rw [hps, List.mem_append] at hp
    exact Or.inr hp
  · obtain ⟨_, _, _, _, _, hz, hn⟩ := hW
    refine ⟨hok, _, _, ([] ++ pa) ++ pv, ⟨[] ++ pa, pv, trodAll_append (hargs _ (fun _ _ => rfl)) (hres _ _ _), hvars _ (fun _ _ => rfl), rfl, ?_, ?_⟩, ?_⟩
    · intro b off hp
      have hin : MemPlace.cell b off ∈ before := by rw [hps]; simpa using hp
      rw [hb.frozen (hlt _ hin)]
      exact hz b off hin
    · intro ha
      have := hn ha
      rw [hps] at this
      simpa using this
    · intro p hp _
      rw [hps]
      simpa using hp

theorem trodAll_below (hl : laidOutB P = true) {W W' : World} (hb : Below W.heap.size W W') {sp : Nat → Bool} :
    ∀ (ts : List TypeId) (vs : List Value) (ds : List (DataW H)) (ps : List MemPlace), (∀ t ∈ ts, P.readableRec t = true ∧ t < P.types.size) → (∀ p ∈ ps, p.block < W.heap.size) → (∀ p ∈ ps, sp p.block = true) →
      DataW.TrodAll enc P W 0 (fun _ => true) true ts vs ds ps → DataW.TrodAll enc P W' 0 sp true ts vs ds ps := by
  intro ts
  induction ts with
  | nil => intro vs ds ps _ _ _ h; cases vs <;> cases ds <;> simp_all [DataW.TrodAll]
  | cons t ts ih =>
    intro vs ds ps ht hlt hs h
    cases vs with
    | nil => simp [DataW.TrodAll] at h
    | cons v vs =>
      cases ds with
      | nil => simp [DataW.TrodAll] at h
      | cons d ds =>
        obtain ⟨p, q, h1, h2, rfl⟩ := h
        exact ⟨p, q, WideElems.Trod_stays hl (ht t (by simp)).1 (ht t (by simp)).2 h1 (fun x hx => hb.same (hlt x (by simp [hx]))) (fun x hx => hs x (by simp [hx])),
          ih vs ds q (fun t' h' => ht t' (by simp [h'])) (fun x hx => hlt x (by simp [hx])) (fun x hx => hs x (by simp [hx])) h2, rfl⟩

/-- A law: it answered true, and nothing that was there has turned. -/
theorem law_post (hl : laidOutB P = true) {f : Func} {s : ChangeSpec} {apart fresh handsOn again : Bool} {tb : TypeId} {W W' : World} {args : Array Value} {ds gs : List (DataW H)} {before : List MemPlace}
    (hr : f.resultTypes = #[tb]) (htb : P.underlying tb = some .bool) (hp : ∀ t ∈ f.params.toList, P.readableRec t = true ∧ t < P.types.size) (hv : s.vars = [])
    (hfn : s.fn H ds = { results := [.lit (.bool true)], args := ds })
    (hW : DataW.Whole enc P f.params.toList s.vars apart W args.toList ds gs before) (hb : Below W.heap.size W W') :
    s.post enc P f apart fresh handsOn again W args (.bool true) W' := by
  have hW' := hW
  obtain ⟨p, q, hA, hV, hpq, hfz, hnd⟩ := hW
  have hlt : ∀ x ∈ before, x.block < W.heap.size := fun x hx => hW'.lt x hx
  rw [hv] at hV
  obtain ⟨hgs, hq⟩ := trodVars_none hV
  subst hgs; subst hq
  simp only [List.append_nil] at hpq
  subst hpq
  refine post_of_below (pa := before) (pv := []) hW' ?_ ?_ ?_ (by simp) hb ?_
  · intro b sp hd
    rw [List.append_nil, hfn, hr]
    exact trodAll_mk1 (shut_bool htb _)
  · intro sp hs
    rw [List.append_nil, hfn]
    exact trodAll_below hl hb _ _ _ _ hp hlt hs hA
  · intro sp hs
    rw [List.append_nil, hfn, hv]
    exact rfl
  · exact ok_one hr rfl (okWide_bool_mk htb _)
end

theorem Tryz.own : ownKnob Tryz.prog.godebug = none := by kernel_rfl
theorem Tryz.laidOut : laidOutB Tryz.prog = true := by kernel_rfl
end Go.Proofs.YtgmdnmdniidngaaGreatDoor
/- errors.As at an Errno. Conditions: the library's one variable holds what its text lays. (After the guide's worked toy on errors.As.) -/
namespace Go.Proofs.YtgmdnmdniidngaaGreatDoor
open Go.RowKit Go.Extern.Stop Go.Stop Go.Extern
set_option linter.unusedVariables false
namespace As

theorem valueOfP (t : Addr) (w : World) : (ReflectliteValue.unpack (.iface 150 (.pointer (some t)))).run Tryz.prog w
    = .ok (.agg #[.pointer (some ⟨2, 150, none⟩), .pointer (some ⟨w.heap.size, 0, none⟩), .int .u64 150]) (w.alloc (.cells #[.pointer (some t)] 150)) := by kernel_rfl
theorem typeP (a : Addr) (w : World) : (ReflectliteValue.methodAny (ReflectliteValue.valueError "reflectlite.Value.Type" 0) (fun t _ _ _ => ReflectliteType.toType t) #[.agg #[.pointer (some ⟨2, 150, none⟩), .pointer (some a), .int .u64 150]]).run Tryz.prog w
    = .ok (.iface 205 (.agg #[.pointer (some ⟨2, 150, none⟩)])) w := by kernel_rfl
theorem kindP (w : World) : ((ReflectliteType.abiMethod fun t => (fun a : Nat => Value.int IntKind.u8 (a : Int)) <$> Rtype.kind t) #[.pointer (some ⟨2, 150, none⟩)]).run Tryz.prog w = .ok (.int .u8 22) w := by kernel_rfl
theorem kindE (w : World) : ((ReflectliteType.abiMethod fun t => (fun a : Nat => Value.int IntKind.u8 (a : Int)) <$> Rtype.kind t) #[.pointer (some ⟨2, 91, none⟩)]).run Tryz.prog w = .ok (.int .u8 2) w := by kernel_rfl
theorem rlm (z : Sem Value) (f : TypeId → Addr → Nat → Nat → Sem Value) (v : Value) :
    ReflectliteValue.method z f #[v] = (do match ← ReflectliteValue.parts v with | none => z | some (t, a, fl) => f t a fl (fl % 32)) := rfl
theorem partsP (a : Addr) (w : World) : (ReflectliteValue.parts (.agg #[.pointer (some ⟨2, 150, none⟩), .pointer (some a), .int .u64 150])).run Tryz.prog w = .ok (some (150, a, 150)) w := by kernel_rfl
theorem isNilP (a p : Addr) (W : World) (ha : W.cell? a = some (.pointer (some p))) :
    (ReflectliteValue.method (ReflectliteValue.valueError "reflectlite.Value.IsNil" 0) ReflectliteValue.isNil #[.agg #[.pointer (some ⟨2, 150, none⟩), .pointer (some a), .int .u64 150]]).run Tryz.prog W = .ok (.bool false) W := by
  rw [rlm]
  simp only [Sem.run_bind, partsP, Result.andThen]
  simp [ReflectliteValue.isNil, loadVar, isAgg, underlying, Tryz.underlying150, ha, Result.andThen]
theorem elemP (w : World) : (ReflectliteType.method ReflectliteType.elem #[.agg #[.pointer (some ⟨2, 150, none⟩)]]).run Tryz.prog w = .ok (.iface 205 (.agg #[.pointer (some ⟨2, 91, none⟩)])) w := by kernel_rfl
theorem implementsE (w : World) : (ReflectliteType.relation "Implements" ReflectliteType.implements_ #[.agg #[.pointer (some ⟨2, 91, none⟩)], .iface 205 (.agg #[.pointer (some ⟨2, 35, none⟩)])]).run Tryz.prog w = .ok (.bool true) w := by kernel_rfl
theorem typeOfE (v : Value) (w : World) : (ReflectliteType.typeOf #[.iface 91 v]).run Tryz.prog w = .ok (.iface 205 (.agg #[.pointer (some ⟨2, 91, none⟩)])) w := by kernel_rfl
theorem assignableE (w : World) : (ReflectliteType.relation "AssignableTo" ReflectliteType.assignableTo #[.agg #[.pointer (some ⟨2, 91, none⟩)], .iface 205 (.agg #[.pointer (some ⟨2, 91, none⟩)])]).run Tryz.prog w = .ok (.bool true) w := by kernel_rfl
theorem valueOfE (n : Int) (w : World) : (ReflectliteValue.unpack (.iface 91 (.int .i64 n))).run Tryz.prog w
    = .ok (.agg #[.pointer (some ⟨2, 91, none⟩), .pointer (some ⟨w.heap.size, 0, none⟩), .int .u64 130]) (w.alloc (.cells #[.int .i64 n] 91)) := by kernel_rfl
theorem elemOfP (w : World) : (Rtype.elem? 150).run Tryz.prog w = .ok (some 91) w := by kernel_rfl
theorem mkE (p : Addr) (w : World) : (ReflectliteValue.mk 91 p ReflectliteValue.flagAddr).run Tryz.prog w = .ok (.agg #[.pointer (some ⟨2, 91, none⟩), .pointer (some p), .int .u64 386]) w := by kernel_rfl
theorem elemVP (a p : Addr) (W : World) (ha : W.cell? a = some (.pointer (some p))) :
    (ReflectliteValue.method (ReflectliteValue.valueError "reflectlite.Value.Elem" 0) ReflectliteValue.elem #[.agg #[.pointer (some ⟨2, 150, none⟩), .pointer (some a), .int .u64 150]]).run Tryz.prog W
      = .ok (.agg #[.pointer (some ⟨2, 91, none⟩), .pointer (some p), .int .u64 386]) W := by
  rw [rlm]
  simp only [Sem.run_bind, partsP, Result.andThen]
  simp [ReflectliteValue.elem, loadVar, isAgg, underlying, Tryz.underlying150, ha, Result.andThen, elemOfP, mkE]
theorem methodKind (k : Nat) (h : Value) (w : World) : (Go.method (k + 3) 205 (.agg #[h]) "Kind").run Tryz.prog w = .ok (173, h) w := by kernel_rfl
theorem methodElem (k : Nat) (h : Value) (w : World) : (Go.method (k + 3) 205 (.agg #[h]) "Elem").run Tryz.prog w = .ok (184, .agg #[h]) w := by kernel_rfl
theorem methodImplements (k : Nat) (h : Value) (w : World) : (Go.method (k + 3) 205 (.agg #[h]) "Implements").run Tryz.prog w = .ok (185, .agg #[h]) w := by kernel_rfl
theorem methodAssignableTo (k : Nat) (h : Value) (w : World) : (Go.method (k + 3) 205 (.agg #[h]) "AssignableTo").run Tryz.prog w = .ok (182, .agg #[h]) w := by kernel_rfl
theorem partsEa (a : Addr) (w : World) : (ReflectliteValue.parts (.agg #[.pointer (some ⟨2, 91, none⟩), .pointer (some a), .int .u64 386])).run Tryz.prog w = .ok (some (91, a, 386)) w := by kernel_rfl
theorem partsE (a : Addr) (w : World) : (ReflectliteValue.parts (.agg #[.pointer (some ⟨2, 91, none⟩), .pointer (some a), .int .u64 130])).run Tryz.prog w = .ok (some (91, a, 130)) w := by kernel_rfl
theorem set_run (ta b : Addr) (W : World) :
    (ReflectliteValue.set #[.agg #[.pointer (some ⟨2, 91, none⟩), .pointer (some ta), .int .u64 386], .agg #[.pointer (some ⟨2, 91, none⟩), .pointer (some b), .int .u64 130]]).run Tryz.prog W
      = (do let val ← loadVar 91 b; storeVar 91 ta val; pure (.tuple #[]) : Sem Value).run Tryz.prog W := by kernel_rfl
theorem setE (ta b : Addr) (n : Int) (old : Value) (W : World) (hb : W.cell? b = some (.int .i64 n)) (ht : W.cell? ta = some old) (hf : W.frozen? ta = false) :
    (ReflectliteValue.set #[.agg #[.pointer (some ⟨2, 91, none⟩), .pointer (some ta), .int .u64 386], .agg #[.pointer (some ⟨2, 91, none⟩), .pointer (some b), .int .u64 130]]).run Tryz.prog W
      = .ok (.tuple #[]) (W.setCell ta (.int .i64 n)) := by
  rw [set_run]
  simp only [Sem.run_bind]
  simp [loadVar, isAgg, underlying, Tryz.underlying91, hb, Result.andThen, storeVar, Value.cells, storeCells, Addr.add]
  rw [run_store Tryz.prog W ta _ _ (by rfl)]
  simp [ht, hf]
theorem as_nil (t : Value) (w : World) : Calls Tryz.prog 90 #[.nilIface, t] w fun e w' => e = .returned (.bool false) ∧ w' = w := by
  go_enter Tryz.func90, Tryz.ntmps90
  go_wp2
  go_ret
  exact ⟨rfl, rfl⟩

set_option maxRecDepth 100000 in
set_option maxHeartbeats 4000000 in
theorem as_hit (n : Int) (t : Addr) (old : Value) (w : World) (hg : w.cell? ⟨0, 0, none⟩ = some (.iface 205 (.agg #[.pointer (some ⟨2, 35, none⟩)]))) (ht0 : w.cell? t = some old) (hf0 : w.frozen? t = false) :
    Calls Tryz.prog 90 #[.iface 91 (.int .i64 n), .iface 150 (.pointer (some t))] w fun ev w' => ev = .returned (.bool true) ∧ w' = ((((w.alloc (.cells #[.pointer (some t)] 150)).alloc (.cells #[.pointer (some ⟨2, 150, none⟩), .pointer (some ⟨w.heap.size, 0, none⟩), .int .u64 150] 175)).alloc (.cells #[.pointer (some ⟨2, 150, none⟩), .pointer (some ⟨w.heap.size, 0, none⟩), .int .u64 150] 175)).alloc (.cells #[.int .i64 n] 91)).setCell t (.int .i64 n) := by
  have hVO := @run_callFunc_extern Tryz.prog 109 _ (fun args => ReflectliteValue.unpack (args.getD 0 (.tuple #[]))) Tryz.func109 (by kernel_rfl) (by kernel_rfl) (by kernel_rfl) (by kernel_rfl)
  have hTy := @run_callFunc_extern Tryz.prog 110 _ (ReflectliteValue.methodAny (ReflectliteValue.valueError "reflectlite.Value.Type" 0) (fun t _ _ _ => ReflectliteType.toType t)) Tryz.func110 (by kernel_rfl) (by kernel_rfl) (by kernel_rfl) (by kernel_rfl)
  have hNi := @run_callFunc_extern Tryz.prog 111 _ (ReflectliteValue.method (ReflectliteValue.valueError "reflectlite.Value.IsNil" 0) ReflectliteValue.isNil) Tryz.func111 (by kernel_rfl) (by kernel_rfl) (by kernel_rfl) (by kernel_rfl)
  have hKi := @run_callFunc_extern Tryz.prog 173 _ (ReflectliteType.abiMethod fun t => do pure (.int .u8 (← Rtype.kind t))) Tryz.func173 (by kernel_rfl) (by kernel_rfl) (by kernel_rfl) (by kernel_rfl)
  have hEl := @run_callFunc_extern Tryz.prog 184 _ (ReflectliteType.method ReflectliteType.elem) Tryz.func184 (by kernel_rfl) (by kernel_rfl) (by kernel_rfl) (by kernel_rfl)
  have hIm := @run_callFunc_extern Tryz.prog 185 _ (ReflectliteType.relation "Implements" ReflectliteType.implements_) Tryz.func185 (by kernel_rfl) (by kernel_rfl) (by kernel_rfl) (by kernel_rfl)
  have hTO := @run_callFunc_extern Tryz.prog 136 _ ReflectliteType.typeOf Tryz.func136 (by kernel_rfl) (by kernel_rfl) (by kernel_rfl) (by kernel_rfl)
  have hAs := @run_callFunc_extern Tryz.prog 182 _ (ReflectliteType.relation "AssignableTo" ReflectliteType.assignableTo) Tryz.func182 (by kernel_rfl) (by kernel_rfl) (by kernel_rfl) (by kernel_rfl)
  have hVE := @run_callFunc_extern Tryz.prog 137 _ (ReflectliteValue.method (ReflectliteValue.valueError "reflectlite.Value.Elem" 0) ReflectliteValue.elem) Tryz.func137 (by kernel_rfl) (by kernel_rfl) (by kernel_rfl) (by kernel_rfl)
  have hVS := @run_callFunc_extern Tryz.prog 138 _ ReflectliteValue.set Tryz.func138 (by kernel_rfl) (by kernel_rfl) (by kernel_rfl) (by kernel_rfl)
  have tO := typeOfE
  have a25 := assignableE
  have v25 := valueOfE
  have f6 := valueOfP
  have f7 := typeP
  have mK := methodKind
  have mE := methodElem
  have mI := methodImplements
  have mA := methodAssignableTo
  have k27 := kindP
  have k25 := kindE
  have e27 := elemP
  have i25 := implementsE
  have n8 := isNilP ⟨w.heap.size, 0, none⟩ t ((w.alloc (.cells #[.pointer (some t)] 150)).alloc (.cells #[.pointer (some ⟨2, 150, none⟩), .pointer (some ⟨w.heap.size, 0, none⟩), .int .u64 150] 175)) (by simp)
  have hlt : 0 < w.heap.size := by
    rcases Nat.eq_zero_or_pos w.heap.size with h0 | h
    · simp [World.cell?, h0] at hg
    · exact h
  have hg2 : ((w.alloc (.cells #[.pointer (some t)] 150)).alloc (.cells #[.pointer (some ⟨2, 150, none⟩), .pointer (some ⟨w.heap.size, 0, none⟩), .int .u64 150] 175)).cell? ⟨0, 0, none⟩ = some (.iface 205 (.agg #[.pointer (some ⟨2, 35, none⟩)])) := by
    rw [World.cell?_alloc_lt _ _ ⟨0, 0, none⟩ (by simp), World.cell?_alloc_lt _ _ ⟨0, 0, none⟩ hlt]; exact hg
  have htl : t.block < w.heap.size := by
    rcases Nat.lt_or_ge t.block w.heap.size with h | h
    · exact h
    · simp [World.cell?, Array.getElem?_eq_none h] at ht0
  have el := elemVP ⟨w.heap.size, 0, none⟩ t (((w.alloc (.cells #[.pointer (some t)] 150)).alloc (.cells #[.pointer (some ⟨2, 150, none⟩), .pointer (some ⟨w.heap.size, 0, none⟩), .int .u64 150] 175)).alloc (.cells #[.pointer (some ⟨2, 150, none⟩), .pointer (some ⟨w.heap.size, 0, none⟩), .int .u64 150] 175)) (by rw [World.cell?_alloc_lt _ _ ⟨w.heap.size, 0, none⟩ (by simp; omega)]; simp)
  have st := setE t ⟨w.heap.size + 1 + 1 + 1, 0, none⟩ n old ((((w.alloc (.cells #[.pointer (some t)] 150)).alloc (.cells #[.pointer (some ⟨2, 150, none⟩), .pointer (some ⟨w.heap.size, 0, none⟩), .int .u64 150] 175)).alloc (.cells #[.pointer (some ⟨2, 150, none⟩), .pointer (some ⟨w.heap.size, 0, none⟩), .int .u64 150] 175)).alloc (.cells #[.int .i64 n] 91))
    (by rw [World.cell?_alloc_at _ _ _ _ (by simp)]; rfl)
    (by rw [World.cell?_alloc_lt _ _ t (by simp; omega), World.cell?_alloc_lt _ _ t (by simp; omega), World.cell?_alloc_lt _ _ t (by simp; omega), World.cell?_alloc_lt _ _ t htl]; exact ht0)
    (by rw [World.frozen?_alloc_old _ _ t (by simp; omega), World.frozen?_alloc_old _ _ t (by simp; omega), World.frozen?_alloc_old _ _ t (by simp; omega), World.frozen?_alloc_old _ _ t (Nat.ne_of_lt htl)]; exact hf0)
  go_enter Tryz.func90, Tryz.ntmps90
  go_wp2
  refine wp_loop_rounds 1 ?_
  rw [rounds_succ]
  go_wp2
  go_ret
  exact ⟨rfl, rfl⟩
end As
end Go.Proofs.YtgmdnmdniidngaaGreatDoor
/- plain.Told, leafsame.Error: the number of an error. Conditions: the library's one variable holds what its text lays. -/
namespace Go.Proofs.YtgmdnmdniidngaaGreatDoor
open Go.RowKit
set_option linter.unusedVariables false

/-- The library's one variable holds what its text lays. -/
def Glob (w : World) : Prop := w.cell? ⟨0, 0, none⟩ = some (.iface 205 (.agg #[.pointer (some ⟨2, 35, none⟩)]))
theorem Glob.lt {w : World} (h : Glob w) : 0 < w.heap.size := by
  rcases Nat.lt_or_ge 0 w.heap.size with h1 | h1
  · exact h1
  · unfold Glob at h; simp [World.cell?, Array.getElem?_eq_none h1] at h
theorem Glob.below {w w' : World} (h : Glob w) {B : Nat} (hb : Below B w w') (hB : w.heap.size ≤ B) : Glob w' := (hb.cell (p := ⟨0, 0, none⟩) (Nat.lt_of_lt_of_le h.lt hB)).trans h
theorem Glob.alloc {w : World} (h : Glob w) (o : Obj) : Glob (w.alloc o) := h.below ((Below.refl _ _).alloc (Nat.le_refl _) _) (Nat.le_refl _)

set_option maxRecDepth 100000 in
set_option maxHeartbeats 1000000 in
theorem told_any (w : World) (k : Int) (hg : Glob w) : Calls Tryz.prog 47 #[errV k] w (CheckPost w (.int .i64 k)) := by
  by_cases h : k = 0
  · subst h
    rw [show errV 0 = .nilIface from rfl]
    go_enter Tryz.func47, Tryz.ntmps47
    go_wp2_with fail
    go_ret
    exact ⟨rfl, Below.refl _ _⟩
  · rw [errV_ne h]
    have HA := Lib.hid (As.as_hit k ⟨w.heap.size, 0, none⟩ (.int .i64 0) (w.alloc (.cells #[.int .i64 0] 91)) (hg.alloc _) (by simp) (by simp))
    have hsz : w.heap.size < w.heap.size + 1 := by omega
    clear h hg
    go_enter Tryz.func47, Tryz.ntmps47
    go_wp2_with fail
    refine HA.out.mono ?_
    rintro e w1 ⟨rfl, hw1⟩
    have hc : w1.cell? ⟨w.heap.size, 0, none⟩ = some (.int .i64 k) := by
      rw [hw1]
      refine World.cell?_setCell_same _ _ _ (u := .int .i64 0) ?_
      rw [World.cell?_alloc_lt _ _ _ (by simp; omega), World.cell?_alloc_lt _ _ _ (by simp; omega), World.cell?_alloc_lt _ _ _ (by simp; omega), World.cell?_alloc_lt _ _ _ (by simp)]
      simp
    have hb : Hid (Below w.heap.size w w1) := by
      show Below _ _ _
      rw [hw1]
      exact (((((((Below.refl _ _).alloc (Nat.le_refl _) _).alloc (by simp) _).alloc (by simp; omega) _).alloc (by simp; omega) _).alloc (by simp; omega) _).setCell (by simp) _)
    clear hw1 HA
    go_wp2_with fail
    go_ret
    exact ⟨rfl, hb.out⟩
set_option maxRecDepth 100000 in
theorem error_any (w : World) (k e : Int) (hg : Glob w) : Calls Tryz.prog 11 #[errV k, .int .i64 e] w (CheckPost w (.bool (k == e))) := by
  have HT := Lib.hid (told_any w k hg)
  clear hg
  go_enter Tryz.func11, Tryz.ntmps11
  go_wp2_with fail
  refine HT.out.mono ?_
  rintro e1 w1 ⟨rfl, hb⟩
  go_wp2_with fail
  go_ret
  exact ⟨rfl, hb⟩
end Go.Proofs.YtgmdnmdniidngaaGreatDoor
/- From a walk to a tied card: what serves every law of a seat whose rows list the library's one variable. Conditions: none of our own. (After the guide's worked toy on errors.As.) -/
namespace Go.Proofs.YtgmdnmdniidngaaGreatDoor
open Go.ChangeShapes Go.WideShapes Go.RowKit
set_option linter.unusedVariables false
namespace Card

/-- What the rows list. -/
def laid : List (String × DataW Unit) := [("errors.errorType", Rows.laid_errors_errorType)]
theorem et : Tryz.prog.globalNamed "errors.errorType" = some 0 := by kernel_rfl
theorem rt : (Tryz.prog.cutTypes.find? (·.1 == "internal/reflectlite.rtype")).map (·.2) = some 205 := by kernel_rfl
theorem oneRow : ((List.range Tryz.prog.types.size).filter fun t => Tryz.prog.rowNamed t [101, 114, 114, 111, 114]) = [35] := by kernel_rfl
theorem handle : typeHandle Tryz.prog 35 = .pointer (some ⟨2, 35, none⟩) := by kernel_rfl
/-- What the condition gives a walk: the variable's one cell. -/
theorem glob_of_laid {W : World} (h : laidMetH Tryz.prog laid W) : Glob W := by
  have h' : laidMet Tryz.prog [] W ∧ handlesMet Tryz.prog laid W := h
  obtain ⟨name, u, ty, e1, e2, e3, e4, e5⟩ := h'.2 _ (List.mem_singleton.2 rfl)
  have en : name = [101, 114, 114, 111, 114] := (Option.some.inj e1).symm
  subst en
  obtain rfl := Option.some.inj (rt.symm.trans e2)
  have hm : ty ∈ (List.range Tryz.prog.types.size).filter fun t => Tryz.prog.rowNamed t [101, 114, 114, 111, 114] := List.mem_filter.2 ⟨List.mem_range.2 e3, e4⟩
  rw [oneRow] at hm
  obtain rfl := List.mem_singleton.1 hm
  rw [handle] at e5
  unfold Glob
  simpa using World.var?_cell et e5 0
/-- A world that meets the condition: the settled one, the variable's cell laid. -/
noncomputable def laidWorld (os : Os) : World :=
  let w0 := World.holding Tryz.prog os ⟨#[], #[], []⟩
  { w0 with heap := w0.heap.modify 0 fun
      | .cells _ t frozen => .cells #[.iface 205 (.agg #[.pointer (some ⟨2, 35, none⟩)])] t frozen
      | o => o }
theorem laidWorld_met (os : Os) (args : Array Value) : laidMetH Tryz.prog laid ((laidWorld os).forCall (fun _ _ => 0) ⟨#[], args, []⟩).memory :=
  laidMetH_of_parts (laidMet_nil _ _) (by kernel_rfl)
end Card
end Go.Proofs.YtgmdnmdniidngaaGreatDoor
/- The program's document and the reference's, played beside each other: the round of such a loop. By the contracts of both. Conditions: the ops can be read. -/
namespace Go.Proofs.YtgmdnmdniidngaaGreatDoor
open Go.RowKit
set_option linter.unusedVariables false
theorem rnew_is (w : World) : RDocIs ((w.alloc (.cells zeros8 3)).alloc (.cells #[.slice none 0 0, .slice none 0 0, .slice (some ⟨w.heap.size, 0, none⟩) 8 8, .slice none 0 0] 45)) w.heap.size
    [w.heap.size, w.heap.size + 1] (w.heap.size + 1) LDoc.new ⟨none, 0, none, 0, some ⟨w.heap.size, 0, none⟩, 8, none, 0, []⟩ := by
  have hz : (w.alloc (.cells zeros8 3)).heap.size = w.heap.size + 1 := World.size_alloc _ _
  have nil : ∀ (W : World) (S T : List Nat) (sz : Nat), Seat W w.heap.size S T sz none 0 [] := fun W S T sz => ⟨⟨by simp, fun h => by omega⟩, fun h => by omega, fun h => by omega⟩
  refine ⟨?_, nil _ _ _ _, ⟨Nat.le_refl _, by simp⟩, nil _ _ _ _, ⟨Nat.le_refl _, by simp⟩, ?_, Own.nil _ _ _ _, rfl, by simp, ?_, ?_⟩
  · have := Blk.new (w.alloc (.cells zeros8 3)) 45 #[.slice none 0 0, .slice none 0 0, .slice (some ⟨w.heap.size, 0, none⟩) 8 8, .slice none 0 0]
    rw [hz] at this
    exact this
  · have h0 : Own (w.alloc (.cells zeros8 3)) w.heap.size 3 1 (some ⟨w.heap.size, 0, none⟩) 8 8 (ints [0, 0, 0, 0, 0, 0, 0, 0]) :=
      ⟨rfl, .inr ⟨w.heap.size, 8, zeros8, rfl, Nat.le_refl _, heap_alloc_new w _, Nat.le_refl _, by decide, rfl, rfl⟩⟩
    exact h0.alloc _
  · intro g hg
    simp [RLay.turns, ob] at hg
    simp; omega
  · intro g hg
    simp only [List.mem_cons, List.not_mem_nil, or_false] at hg
    simp
    omega
def RNewPost (w : World) (e : Ending) (w' : World) : Prop := ∃ b S D, e = .returned (.pointer (some ⟨b, 0, none⟩)) ∧ RDocIs w' w.heap.size S b LDoc.new D ∧ Below w.heap.size w w'
set_option maxRecDepth 100000 in
theorem rnew_doc (w : World) : Calls Tryz.prog 8 #[] w (RNewPost w) := by
  have hmk : (Instr.makeSlice 43 (.int .i64 8) (.int .i64 8)).run Tryz.prog w = .ok (.slice (some ⟨w.heap.size, 0, none⟩) 8 8) (w.alloc (.cells zeros8 3)) := by
    have e : madeCells #[Value.int .i64 0] 8 = zeros8 := by apply Array.ext'; simp [madeCells, zeros8, Nat.mod_one, List.range, List.range.loop]
    rw [← e]
    exact run_make_row' (P := Tryz.prog) 43 3 (.int .i64 0) 8 Tryz.underlying43 (by kernel_rfl) rfl .i64 .i64 8 (by omega) (by omega) w
  have HN := Lib.hid (rnew_is w)
  have HB : Hid (Below w.heap.size w ((w.alloc (.cells zeros8 3)).alloc (.cells #[.slice none 0 0, .slice none 0 0, .slice (some ⟨w.heap.size, 0, none⟩) 8 8, .slice none 0 0] 45))) :=
    ((Below.refl _ _).alloc (Nat.le_refl _) _).alloc (by simp) _
  generalize zeros8 = z8 at *
  go_enter Tryz.func8, Tryz.ntmps8
  go_wp2_with fail
  go_ret
  exact ⟨_, _, _, rfl, HN.out, HB.out⟩
/-- The two documents, to which the same ops were applied. -/
def PlayAt (w : World) (B b1 b2 n : Nat) (wr : World) : Prop := ∃ st S1 S2 D1 D2, Twin w B b1 b2 st st wr S1 S2 D1 D2 ∧ st.Ok ∧ Says st.ops st ∧ st.ops.length ≤ n
def PlayRound (w : World) (B b1 b2 : Nat) (i : Value) (wr : World) : Prop := ∃ k : Nat, k ≤ 60 ∧ i = .int .i64 k ∧ Hid (PlayAt w B b1 b2 k wr)
theorem PlayAt.more {w wr : World} {B b1 b2 n m : Nat} (h : PlayAt w B b1 b2 n wr) (hm : n ≤ m) : PlayAt w B b1 b2 m wr := by
  obtain ⟨st, S1, S2, D1, D2, h1, h2, h3, h4⟩ := h
  exact ⟨st, S1, S2, D1, D2, h1, h2, h3, by omega⟩
theorem PlayAt.below {w wr : World} {B b1 b2 n : Nat} (h : PlayAt w B b1 b2 n wr) : Below w.heap.size w wr := by
  obtain ⟨st, S1, S2, D1, D2, h1, _⟩ := h
  exact h1.below
theorem Seat.of_arg {w wr : World} {B : Nat} {S T : List Nat} {size n : Nat} {A : Option Addr} {xs : List Value} (h : Reads w w.heap.size size A n xs) (hb : Below w.heap.size w wr) (hB : w.heap.size ≤ B) (hT : ∀ g ∈ T, B ≤ g) : Seat wr B S T size A n xs := by
  refine ⟨(h.below hb).more hb.size, fun hn g hg => ?_, fun hn g hg hm => ?_⟩
  · obtain ⟨ad, e, hlt, _⟩ := h.2 hn
    rw [e] at hg; simp [ob] at hg; exact .inl (by omega)
  · obtain ⟨ad, e, hlt, _⟩ := h.2 hn
    rw [e] at hg; simp [ob] at hg
    have := hT g hm; omega
theorem PlayAt.round {w wr : World} {B b1 b2 n : Nat} (h : PlayAt w B b1 b2 n wr) {A : Option Addr} {ys : List OpAt} (hr : Reads w w.heap.size 6 A ys.length (ocells ys)) (hg : ∀ y ∈ ys, y.Good w) {k : Nat} (hk : k < ys.length) :
    ∃ ad who nn what p letter seen ya yc, A = some ad ∧ Below w.heap.size w wr ∧ Hid (∀ W, Below w.heap.size w W → W.cell? (ad.add (k * 6)) = some (.int .i64 who) ∧ W.cell? ⟨(ad.add (k * 6)).block, (ad.add (k * 6)).off + 1, none⟩ = some (.int .i64 nn) ∧ W.cell? ⟨(ad.add (k * 6)).block, (ad.add (k * 6)).off + 2, none⟩ = some (.int .i64 what) ∧
      W.cell? ⟨(ad.add (k * 6)).block, (ad.add (k * 6)).off + 3, none⟩ = some (.string p) ∧ W.cell? ⟨(ad.add (k * 6)).block, (ad.add (k * 6)).off + 4, none⟩ = some (.int .i64 letter) ∧ W.cell? ⟨(ad.add (k * 6)).block, (ad.add (k * 6)).off + 5, none⟩ = some (.slice ya seen yc)) ∧
      Hid (Calls Tryz.prog 9 #[.pointer (some ⟨b2, 0, none⟩), .agg #[.int .i64 who, .int .i64 nn, .int .i64 what, .string p, .int .i64 letter, .slice ya seen yc]] wr (fun e w1 => ∃ (is : Bool) (ke : Int), e = .returned (.tuple #[.bool is, .int .i64 ke]) ∧ Below w.heap.size w w1 ∧
        Calls Tryz.prog 10 #[.pointer (some ⟨b1, 0, none⟩), .agg #[.int .i64 who, .int .i64 nn, .int .i64 what, .string p, .int .i64 letter, .slice ya seen yc]] w1 (fun e w2 => e = .returned (.tuple #[.bool is, errV ke]) ∧ PlayAt w B b1 b2 (n + 1) w2))) := by
  obtain ⟨st, S1, S2, D1, D2, hd, hok, hs, hl⟩ := h
  obtain ⟨ad, rfl, hcel⟩ : ∃ ad, A = some ad ∧ ∀ W, Below w.heap.size w W → W.cell? (ad.add (k * 6)) = some (.int .i64 ys[k].op.dot.who) ∧ W.cell? ⟨(ad.add (k * 6)).block, (ad.add (k * 6)).off + 1, none⟩ = some (.int .i64 ys[k].op.dot.n) ∧ W.cell? ⟨(ad.add (k * 6)).block, (ad.add (k * 6)).off + 2, none⟩ = some (.int .i64 ys[k].op.what) ∧
      W.cell? ⟨(ad.add (k * 6)).block, (ad.add (k * 6)).off + 3, none⟩ = some (.string ys[k].op.place) ∧ W.cell? ⟨(ad.add (k * 6)).block, (ad.add (k * 6)).off + 4, none⟩ = some (.int .i64 ys[k].op.letter) ∧ W.cell? ⟨(ad.add (k * 6)).block, (ad.add (k * 6)).off + 5, none⟩ = some (.slice ys[k].at_ ys[k].op.seen.length ys[k].cap) := by
    obtain ⟨ad, e, _⟩ := hr.op hk
    refine ⟨ad, e, fun W hW => ?_⟩
    obtain ⟨ad', e', _, hh⟩ := (hr.below hW).op hk
    rw [e] at e'
    injection e' with e'
    subst e'
    exact hh
  have hgood := fun W (hW : Below w.heap.size w W) => (hg _ (List.getElem_mem hk)).below hW
  have hps := (hgood wr hd.below).2.1
  have hbase := hd.base
  have HA := rapply_doc wr _ _ _ _ _ hd.two hok hs ys[k].op ys[k].at_ ys[k].cap (by unfold maxLen at hps; omega) (Seat.of_arg (hg _ (List.getElem_mem hk)).1 hd.below hd.base (fun g hg => (hd.two.own g (hd.two.sub g hg)).1))
  refine ⟨ad, _, _, _, _, _, _, _, _, rfl, hd.below, hcel, HA.mono ?_⟩
  rintro e w1 ⟨rfl, ht⟩
  obtain ⟨S', D', hd', ho', _⟩ := hd.right ht
  refine ⟨_, _, rfl, hd'.below, ?_⟩
  have HA2 := apply_doc w1 _ _ _ _ _ hd'.one hok ys[k].op ys[k].at_ ys[k].cap (by unfold maxLen at hps; omega) (hgood w1 hd'.below).1 (fun hn g hgg hm => by
    obtain ⟨ad2, e2, hlt, _⟩ := (hg _ (List.getElem_mem hk)).1.2 hn
    rw [e2] at hgg; simp [ob] at hgg
    have := (hd'.one.own g hm).1; omega)
  refine HA2.mono ?_
  rintro e w2 ⟨rfl, ht2⟩
  obtain ⟨S'', D'', hd'', _, _⟩ := hd'.left ht2
  refine ⟨rfl, _, S'', S', D'', D', hd'', LDoc.apply_ok hok _, LDoc.apply_says hok hs _, ?_⟩
  rcases LDoc.apply_three (d := st) ys[k].op with ⟨_, _, q⟩ | ⟨_, _, q⟩ | ⟨_, _, q⟩
  · rw [q]; simp; omega
  · rw [q]; omega
  · rw [q]; omega
end Go.Proofs.YtgmdnmdniidngaaGreatDoor
/- The two documents are the same, part by part: by the contracts. Conditions: the documents are right. -/
namespace Go.Proofs.YtgmdnmdniidngaaGreatDoor
open Go.RowKit
set_option linter.unusedVariables false
namespace Twin
theorem rcells {w w3 : World} {B b1 b2 : Nat} {s : LDoc} {S1 S2 : List Nat} {D1 : DLay} {D2 : RLay} (h : Twin w B b1 b2 s s w3 S1 S2 D1 D2) (W : World) (hb : Below w3.heap.size w3 W) : W.cell? ⟨b2, 0, none⟩ = some (.slice D2.a1 s.book.length D2.c1) ∧ W.cell? ⟨b2, 1, none⟩ = some (.slice D2.a2 s.marks.length D2.c2) ∧ W.cell? ⟨b2, 2, none⟩ = some (.slice D2.a3 s.known.length D2.c3) ∧ W.cell? ⟨b2, 3, none⟩ = some (.slice D2.a4 s.ops.length D2.c4) := by
  have h1 := (h.two.below hb).blk
  exact ⟨by rw [h1.cell]; rfl, by rw [h1.cell]; rfl, by rw [h1.cell]; rfl, by rw [h1.cell]; rfl⟩
variable {w w3 : World} {B b1 b2 : Nat} {s : LDoc} {S1 S2 : List Nat} {D1 : DLay} {D2 : RLay} (h : Twin w B b1 b2 s s w3 S1 S2 D1 D2) (ok : s.Ok)
include h ok
theorem books (W : World) (hb : Below w3.heap.size w3 W) : Calls Tryz.prog 13 #[.pointer (some ⟨b1, 0, none⟩)] W (fun e w' => ∃ V c, e = .returned (.slice V s.book.length c) ∧ Below w3.heap.size w3 w' ∧
    ∀ W2, Below w'.heap.size w' W2 → Calls Tryz.prog 12 #[.slice V s.book.length c, .slice D2.a1 s.book.length D2.c1] W2 (fun e w4 => e = .returned (.bool true) ∧ Below w3.heap.size w3 w4)) := by
  refine (book_doc W _ _ _ _ _ (h.one.below hb) ok).mono ?_
  rintro e w' ⟨V, c, rfl, hO, hb2⟩
  have hb3 := hb.trans (hb2.mono hb.size)
  refine ⟨V, c, rfl, hb3, fun W2 hW2 => ?_⟩
  have hb4 := hb3.trans (hW2.mono hb3.size)
  exact (leafs_same W2 V D2.a1 c D2.c1 s.book (hO.below hW2).reads (h.two.below hb4).book.row (by have := ok.book.few; omega)).mono fun e w4 hh => ⟨hh.1, hb4.trans (hh.2.mono hb4.size)⟩
theorem markss (W : World) (hb : Below w3.heap.size w3 W) : Calls Tryz.prog 15 #[.pointer (some ⟨b1, 0, none⟩)] W (fun e w' => ∃ V c, e = .returned (.slice V s.marks.length c) ∧ Below w3.heap.size w3 w' ∧
    ∀ W2, Below w'.heap.size w' W2 → Calls Tryz.prog 14 #[.slice V s.marks.length c, .slice D2.a2 s.marks.length D2.c2] W2 (fun e w4 => e = .returned (.bool true) ∧ Below w3.heap.size w3 w4)) := by
  refine (marks_doc W _ _ _ _ _ (h.one.below hb) ok).mono ?_
  rintro e w' ⟨V, c, rfl, hO, hb2⟩
  have hb3 := hb.trans (hb2.mono hb.size)
  refine ⟨V, c, rfl, hb3, fun W2 hW2 => ?_⟩
  have hb4 := hb3.trans (hW2.mono hb3.size)
  exact (marks_same W2 V D2.a2 c D2.c2 s.marks (hO.below hW2).reads (h.two.below hb4).marks.row (by have := ok.marks.few; omega)).mono fun e w4 hh => ⟨hh.1, hb4.trans (hh.2.mono hb4.size)⟩
theorem knowns (W : World) (hb : Below w3.heap.size w3 W) : Calls Tryz.prog 17 #[.pointer (some ⟨b1, 0, none⟩)] W (fun e w' => ∃ V c, e = .returned (.slice V s.known.length c) ∧ Below w3.heap.size w3 w' ∧
    ∀ W2, Below w'.heap.size w' W2 → Calls Tryz.prog 16 #[.slice V s.known.length c, .slice D2.a3 s.known.length D2.c3] W2 (fun e w4 => e = .returned (.bool true) ∧ Below w3.heap.size w3 w4)) := by
  refine (known_doc W _ _ _ _ _ (h.one.below hb) ok).mono ?_
  rintro e w' ⟨V, c, rfl, hO, hb2⟩
  have hb3 := hb.trans (hb2.mono hb.size)
  refine ⟨V, c, rfl, hb3, fun W2 hW2 => ?_⟩
  have hb4 := hb3.trans (hW2.mono hb3.size)
  exact (ints_same W2 V D2.a3 c D2.c3 s.known (hO.below hW2).reads (h.two.below hb4).known.reads (by have := (vec_ok ok.known).1; omega)).mono fun e w4 hh => ⟨hh.1, hb4.trans (hh.2.mono hb4.size)⟩
theorem opss (W : World) (hb : Below w3.heap.size w3 W) : Calls Tryz.prog 19 #[.pointer (some ⟨b1, 0, none⟩)] W (fun e w' => ∃ V c, e = .returned (.slice V s.ops.length c) ∧ Below w3.heap.size w3 w' ∧
    ∀ W2, Below w'.heap.size w' W2 → Calls Tryz.prog 18 #[.slice V s.ops.length c, .slice D2.a4 s.ops.length D2.c4] W2 (fun e w4 => e = .returned (.bool true) ∧ Below w3.heap.size w3 w4)) := by
  refine (ops_doc W _ _ _ _ _ (h.one.below hb) ok).mono ?_
  rintro e w' ⟨V, c, zs, rfl, hz, hO, hb2⟩
  have hb3 := hb.trans (hb2.mono hb.size)
  refine ⟨V, c, rfl, hb3, fun W2 hW2 => ?_⟩
  have hb4 := hb3.trans (hW2.mono hb3.size)
  have hd := h.two.below hb4
  have hl : zs.length = s.ops.length := by rw [← hz, List.length_map]
  have hl2 := hd.ys_len
  have few := ok.few
  have hseen : ∀ o ∈ s.ops, o.seen.length ≤ 40 := fun o ho => (op_ok (ok.ops o ho).1).2.2.2.2.2.2.1
  have key := SameOps.any W2 V D2.a4 c D2.c4 zs D2.ys (hO.row.below hW2).reads (by rw [hl2]; exact hd.ops.reads)
    (fun y hy => ⟨((hO.seen y hy).below hW2).reads, by have := hseen y.op (by rw [← hz]; exact List.mem_map.2 ⟨y, hy, rfl⟩); omega⟩)
    (fun y hy => ⟨(hd.seen y hy).row, by have := hseen y.op (by rw [← hd.same]; exact List.mem_map.2 ⟨y, hy, rfl⟩); omega⟩) (by omega) (by omega)
  rw [hz, hd.same, decide_eq_true rfl, hl, hl2] at key
  exact key.mono fun e w4 hh => ⟨hh.1, hb4.trans (hh.2.mono hb4.size)⟩
theorem texts (W : World) (hb : Below w3.heap.size w3 W) : Calls Tryz.prog 20 #[.pointer (some ⟨b1, 0, none⟩)] W (fun e w' => e = .returned (.string (textOf s.book)) ∧ Below w3.heap.size w3 w') :=
  (text_doc W _ _ _ _ _ (h.one.below hb) ok).mono fun e w' hh => ⟨hh.1, hb.trans (hh.2.mono hb.size)⟩
theorem rtexts (W : World) (hb : Below w3.heap.size w3 W) : Calls Tryz.prog 21 #[.slice D2.a1 s.book.length D2.c1] W (fun e w' => e = .returned (.string (textOf s.book)) ∧ Below w3.heap.size w3 w') :=
  (rtext_any W D2.a1 D2.c1 s.book (h.two.below hb).book.row (fit_ok ok.book) (by have := ok.book.few; omega)).mono fun e w' hh => ⟨hh.1, hb.trans (hh.2.mono hb.size)⟩
end Twin
end Go.Proofs.YtgmdnmdniidngaaGreatDoor
/- The end of a line as plain data: what the program's package link does, and how it lies in memory. Conditions: none. -/
namespace Go.Proofs.YtgmdnmdniidngaaGreatDoor
open Go.RowKit

structure LEnd where
  win : Nat
  wait : Nat
  data : List ByteArray
  acked : Nat
  said : Nat
  ticks : Nat
  got : List ByteArray
  owes : Bool

structure LFrame where
  ack : Bool
  seq : Int
  data : ByteArray

def LFrame.cells (f : LFrame) : List Value := [.bool f.ack, .int .i64 f.seq, .string f.data]
def fcells (l : List LFrame) : List Value := l.flatMap LFrame.cells
theorem fcells_append (a b : List LFrame) : fcells (a ++ b) = fcells a ++ fcells b := by simp [fcells]
theorem fcells_len (l : List LFrame) : (fcells l).length = l.length * 3 := by
  induction l with
  | nil => rfl
  | cons f l ih => simp [fcells, LFrame.cells] at ih ⊢; omega
theorem oneCells_f (l : List LFrame) : OneCells (fcells l) := by
  intro u hu
  obtain ⟨f, _, h⟩ := List.mem_flatMap.1 hu
  simp only [LFrame.cells, List.mem_cons, List.not_mem_nil, or_false] at h
  rcases h with rfl | rfl | rfl <;> rfl

def LEnd.new (win wait : Nat) : LEnd := ⟨win, wait, [], 0, 0, 0, [], false⟩
def LEnd.send (st : LEnd) (s : ByteArray) : LEnd := { st with data := st.data ++ [s] }
/-- How many frames of data it may say, from the first that is not acknowledged. -/
def LEnd.wide (st : LEnd) : Nat := min st.win st.data.length
/-- How many of these it passes over, as it said them already. -/
def LEnd.skip (st : LEnd) : Nat := if st.wait ≤ st.ticks then 0 else max st.said st.acked - st.acked
def LEnd.frame (st : LEnd) (j : Nat) : LFrame := ⟨false, st.acked + j + 1, st.data.getD j ⟨#[]⟩⟩
def LEnd.ackFrames (st : LEnd) : List LFrame := if st.owes then [⟨true, st.got.length, ⟨#[]⟩⟩] else []
def LEnd.outFrames (st : LEnd) : List LFrame := st.ackFrames ++ (List.range' st.skip (st.wide - st.skip)).map st.frame
def LEnd.out (st : LEnd) : LEnd := { st with owes := false, ticks := if st.skip < st.wide then 0 else st.ticks, said := max st.said (st.acked + st.wide) }
def LEnd.tick (st : LEnd) : LEnd := { st with ticks := st.ticks + 1 }
/-- What is wrong with a frame that is heard. -/
def LEnd.hearErr (st : LEnd) (f : LFrame) : Int :=
  if f.ack then (if f.seq < 0 ∨ (st.said : Int) < f.seq then 1 else if f.data.size ≠ 0 then 3 else 0)
  else (if f.seq < 1 then 1 else if 200 < f.data.size then 4 else 0)
def LEnd.hear (st : LEnd) (f : LFrame) : LEnd :=
  if st.hearErr f ≠ 0 then st
  else if f.ack then (if (st.acked : Int) < f.seq then { st with data := st.data.drop (f.seq.toNat - st.acked), acked := f.seq.toNat } else st)
  else { st with got := if f.seq = st.got.length + 1 then st.got ++ [f.data] else st.got, owes := true }

/-- What holds of each end. -/
structure LEnd.Ok (st : LEnd) : Prop where
  win1 : 1 ≤ st.win
  win2 : st.win ≤ 16
  wait1 : 1 ≤ st.wait
  wait2 : st.wait ≤ 20
  data : st.data.length ≤ 100
  acked : st.acked ≤ 100000
  said : st.said ≤ st.acked + st.data.length
  ticks : st.ticks ≤ 100000
  got : st.got.length ≤ 100000

/-- The cells of an end. -/
def LEnd.cells (st : LEnd) (A : Option Addr) (ca : Nat) (G : Option Addr) (cg : Nat) : Array Value :=
  #[.int .i64 st.win, .int .i64 st.wait, .slice A st.data.length ca, .int .i64 st.acked, .int .i64 st.said, .int .i64 st.ticks, .slice G st.got.length cg, .bool st.owes]

theorem elemS : Elem Tryz.prog 222 9 1 16 := Elem.mk_ (z := .string ⟨#[]⟩) Tryz.underlying222 (by kernel_rfl) rfl (by decide)
/-- The blocks of an end. -/
def endBlocks (b : Nat) (A G : Option Addr) : List Nat := b :: (ob A ++ ob G)
section
variable {w w' : World} {B b ca cg : Nat} {A G : Option Addr} {st : LEnd}
end
end Go.Proofs.YtgmdnmdniidngaaGreatDoor
/- Arguments opened: texts, numbers. Plain lemmas. Conditions: none of our own. -/
namespace Go.Proofs.YtgmdnmdniidngaaGreatDoor
open Go.RowKit Go.WideShapes Go.ChangeShapes Go.Deep
set_option linter.unusedVariables false
theorem cellsFInt : Tryz.prog.cellsOf 3 = 1 := by kernel_rfl
theorem cellsFStr : Tryz.prog.cellsOf 9 = 1 := by kernel_rfl
section
variable {H : Type} {enc : TypeId × Value → H} {w : World} {base : Nat} {spare : Nat → Bool} {held : Bool}
theorem flat_one {α : Type} (f : α → Value) (l : List α) : l.flatMap (fun x => [f x]) = l.map f := by
  induction l with
  | nil => rfl
  | cons x l ih => simp [List.flatMap_cons, ih]
set_option maxRecDepth 100000 in
theorem arg_strs {r : Reach} {b0 : Nat} {v : Value} {d : DataW H} {p : List MemPlace} (hv : Value.okWide Tryz.prog w r b0 222 v) (h : DataW.Trod enc Tryz.prog w base spare held 222 v d p) :
    ∃ (A : Option Addr) (cap : Nat) (l : List ByteArray), v = .slice A l.length cap ∧ Reads w w.heap.size 1 A l.length (strs l) ∧ (∀ y ∈ l, y.size ≤ maxLen) ∧ l.length ≤ cap ∧ cap ≤ maxLen := by
  obtain ⟨a, len, c, rfl⟩ := okWide_slice Tryz.underlying222 hv
  obtain ⟨fuel, hf⟩ := h
  obtain ⟨A, cap, l, e, hr, h2⟩ := open_list (α := ByteArray) (fun s => [.string s]) (fun s => s.size ≤ maxLen) Tryz.underlying222 cellsFStr (by decide) (fun _ => rfl) (fun _ cs _ h => by
    obtain ⟨s, e, _, hs⟩ := DataW.trod_string Tryz.underlying9 h
    exact ⟨s, e, hs⟩) hf
  rw [flat_one] at hr
  refine ⟨A, cap, l, ?_, hr, h2⟩
  have e' : [Value.slice a len c] = [.slice A l.length cap] := e
  injection e'
set_option maxRecDepth 100000 in
theorem arg_ints {r : Reach} {b0 : Nat} {v : Value} {d : DataW H} {p : List MemPlace} (hv : Value.okWide Tryz.prog w r b0 43 v) (h : DataW.Trod enc Tryz.prog w base spare held 43 v d p) :
    ∃ (A : Option Addr) (cap : Nat) (l : List Int), v = .slice A l.length cap ∧ Reads w w.heap.size 1 A l.length (l.map (Value.int .i64)) ∧ (∀ y ∈ l, I64 y) ∧ l.length ≤ cap ∧ cap ≤ maxLen := by
  obtain ⟨a, len, c, rfl⟩ := okWide_slice Tryz.underlying43 hv
  obtain ⟨fuel, hf⟩ := h
  obtain ⟨A, cap, l, e, hr, h2⟩ := open_list (α := Int) (fun s => [.int .i64 s]) I64 Tryz.underlying43 cellsFInt (by decide) (fun _ => rfl) (fun _ cs _ h => by
    obtain ⟨s, e, _, hs⟩ := DataW.trod_int Tryz.underlying3 h
    exact ⟨s, e, i64_of_wf hs⟩) hf
  rw [flat_one] at hr
  refine ⟨A, cap, l, ?_, hr, h2⟩
  have e' : [Value.slice a len c] = [.slice A l.length cap] := e
  injection e'
end
end Go.Proofs.YtgmdnmdniidngaaGreatDoor
/- Arguments opened: frames, texts, numbers. Plain lemmas. Conditions: none of our own. -/
namespace Go.Proofs.YtgmdnmdniidngaaGreatDoor
open Go.RowKit Go.WideShapes Go.ChangeShapes Go.Deep
set_option linter.unusedVariables false

instance : Inhabited LFrame := ⟨⟨false, 0, ⟨#[]⟩⟩⟩
def LFrame.In (x : LFrame) : Prop := x.data.size ≤ maxLen ∧ I64 x.seq
theorem cellsFBool : Tryz.prog.cellsOf 4 = 1 := by kernel_rfl
section
variable {H : Type} {enc : TypeId × Value → H} {w : World} {base : Nat} {spare : Nat → Bool} {held : Bool}
end
end Go.Proofs.YtgmdnmdniidngaaGreatDoor
/- leaflaw1.DocPlays, proved: any ops, one behind the other: which are new, which are refused, what there is. Conditions: the library's one variable holds what its text lays. -/
namespace Go.Proofs.YtgmdnmdniidngaaGreatDoor
open Go.RowKit Go.WideShapes Go.ChangeShapes Go.ChangeAt
set_option linter.unusedVariables false
namespace lawDocPlays
set_option maxRecDepth 100000 in
set_option maxHeartbeats 8000000 in
theorem walk (w : World) (A0 : Option Addr) (c0 : Nat) (ys : List OpAt) (hglob : Glob w) (h0 : Reads w w.heap.size 6 A0 ys.length (ocells ys)) (hg : ∀ y ∈ ys, y.Good w) (hn0 : ys.length ≤ 9223372036854775807) :
    Calls Tryz.prog 3 #[.slice A0 ys.length c0] w (CheckPost w (.bool true)) := by
  have HR0 := Lib.hid h0
  have HG := Lib.hid hg
  have HGL := Lib.hid hglob
  have HN := Lib.hid (new_doc w)
  clear h0 hg hglob
  go_enter Tryz.func3, Tryz.ntmps3
  go_wp2_with fail
  refine HN.out.mono ?_
  rintro e w1 ⟨b1, S1, D1, rfl, hd1, hb1⟩
  have HD1 := Lib.hid hd1
  have HB1 := Lib.hid hb1
  have HRN := Lib.hid (rnew_doc w1)
  clear hd1 hb1 HN
  go_wp2_with fail
  refine HRN.out.mono ?_
  rintro e w2 ⟨b2, S2, D2, rfl, hd2, hb2⟩
  have HP2 : Hid (PlayAt w w.heap.size b1 b2 0 w2) := by
    have hS : ∀ g ∈ S2, w1.heap.size ≤ g := fun g hg => (hd2.own g hg).1
    have hd2' : RDocIs w2 w.heap.size S2 b2 LDoc.new D2 :=
      { hd2 with
        book := ⟨hd2.book.row, fun hn => absurd hn (by simp [LDoc.new]), hd2.book.out⟩
        marks := ⟨hd2.marks.row, fun hn => absurd hn (by simp [LDoc.new]), hd2.marks.out⟩
        known := hd2.known.mono HB1.out.size
        ops := hd2.ops.mono HB1.out.size
        seen := fun y hy => by
          have hz := hd2.ys_len
          have : D2.ys = [] := List.eq_nil_of_length_eq_zero hz
          rw [this] at hy; cases hy
        own := fun g hg => ⟨Nat.le_trans HB1.out.size (hd2.own g hg).1, (hd2.own g hg).2⟩ }
    exact ⟨LDoc.new, S1, S2, D1, D2, Twin.make HB1.out (Nat.le_refl _) HD1.out hb2 hd2' hS, LDoc.new_ok, Says.new, Nat.zero_le _⟩
  clear hd2 hb2 HRN HD1 HB1
  go_wp2_with fail
  go_loopw [5] (fun i wr => PlayRound w w.heap.size b1 b2 i wr) (fun i _ => 60 - (intOf i).toNat)
  case atStart => exact ⟨0, by omega, rfl, HP2.out⟩
  case round =>
    obtain ⟨k, hk, rfl, HK⟩ := hrel
    have k0 : (0 : Int) ≤ (k : Int) := by omega
    by_cases h1 : k < ys.length
    · have k1 : (k : Int) < (ys.length : Int) := by omega
      by_cases h2 : k < 60
      · have k2 : (k : Int) < 60 := by omega
        obtain ⟨ad, who', nn, what, p', letter', seen, ya, yc, rfl, hbw, HCL, HC⟩ := HK.out.round HR0.out HG.out h1
        obtain ⟨d0, d1, d2, d3, d4, d5⟩ := HCL.out _ hbw
        clear hbw HK
        go_wp2_with fail
        refine HC.out.mono ?_
        rintro e w3 ⟨is, ke, rfl, hbw, hC⟩
        have HC := Lib.hid hC
        clear d0 d1 d2 d3 d4 d5 hC
        obtain ⟨d0, d1, d2, d3, d4, d5⟩ := HCL.out _ hbw
        clear hbw
        go_wp2_with fail
        refine HC.out.mono ?_
        rintro e w4 ⟨rfl, hD⟩
        have HP4 := Lib.hid hD
        have HER := Lib.hid (error_any w4 ke ke (HGL.out.below hD.below (Nat.le_refl _)))
        rw [show (ke == ke) = true by simp] at HER
        clear hD HC d0 d1 d2 d3 d4 d5
        go_wp2_with fail
        refine HER.out.mono ?_
        rintro e w5 ⟨rfl, hb5⟩
        obtain ⟨st, S1, S2, D1, D2, htw, hok, hsay, hlen⟩ := HP4.out
        have HT := Lib.hid (htw.step hb5)
        have OK := Lib.hid hok
        have HPL : Hid (PlayAt w w.heap.size b1 b2 (k + 1) w5) := ⟨st, S1, S2, D1, D2, htw.step hb5, hok, hsay, hlen⟩
        have HPB := Lib.hid (fun W (hb : Below w5.heap.size w5 W) => (show PlayAt w w.heap.size b1 b2 (k + 1) W from ⟨st, S1, S2, D1, D2, HT.out.step hb, hok, hsay, hlen⟩))
        have HBR : Hid (Below w5.heap.size w5 w5) := Below.refl _ _
        clear htw hok hsay hlen hb5 HER HP4
        have HBO := Lib.hid (fun W hb => HT.out.books OK.out W hb)
        have HMA := Lib.hid (fun W hb => HT.out.markss OK.out W hb)
        have HKN := Lib.hid (fun W hb => HT.out.knowns OK.out W hb)
        have HOS := Lib.hid (fun W hb => HT.out.opss OK.out W hb)
        have HTX := Lib.hid (fun W hb => HT.out.texts OK.out W hb)
        have HRT := Lib.hid (fun W hb => HT.out.rtexts OK.out W hb)
        have HRC := Lib.hid (fun W hb => HT.out.rcells W hb)
        have gis : (is != is) = false := by simp
        have gtx : ((textOf st.book).toList != (textOf st.book).toList) = false := by simp
        clear HT OK
        obtain ⟨r0, r1, r2, r3⟩ := HRC.out w5 HBR.out
        generalize textOf st.book = tx at *
        go_wp2_with fail
        go_region_held3 (fun w' => w'.cell? ⟨b2, 0, none⟩ = some (.slice D2.a1 st.book.length D2.c1))
          (first | go_keep | assumption)
          (first
            | (go_at_call 13; refine (HBO.out _ (by first | exact HBR.out | exact below_drewN HBR.out _ | exact HBR.out.drew)).mono ?_; rintro e w6 ⟨V, c, rfl, hb6, hL⟩
               have HB6 := Lib.hid hb6
               have HL6 := Lib.hid (hL w6 (Below.refl _ _))
               clear r0 r1 r2 r3
               obtain ⟨r0, r1, r2, r3⟩ := HRC.out w6 hb6
               clear hb6 hL)
            | (go_at_call 12; refine HL6.out.mono ?_; rintro e w7 ⟨rfl, hb7⟩
               have HBa := Lib.hid hb7
               clear r0 r1 r2 r3
               obtain ⟨r0, r1, r2, r3⟩ := HRC.out w7 hb7
               clear hb7 HL6 HB6))
        go_wp2_with fail
        go_region_held3 (fun w' => w'.cell? ⟨b2, 1, none⟩ = some (.slice D2.a2 st.marks.length D2.c2))
          (first | go_keep | assumption)
          (first
            | (go_at_call 15; refine (HMA.out _ (by first | exact HBa.out | exact below_drewN HBa.out _ | exact HBa.out.drew)).mono ?_; rintro e w8 ⟨V, c, rfl, hb6, hL⟩
               have HB6 := Lib.hid hb6
               have HL6 := Lib.hid (hL w8 (Below.refl _ _))
               clear r0 r1 r2 r3
               obtain ⟨r0, r1, r2, r3⟩ := HRC.out w8 hb6
               clear hb6 hL)
            | (go_at_call 14; refine HL6.out.mono ?_; rintro e w9 ⟨rfl, hb7⟩
               have HBb := Lib.hid hb7
               clear r0 r1 r2 r3
               obtain ⟨r0, r1, r2, r3⟩ := HRC.out w9 hb7
               clear hb7 HL6 HB6))
        go_wp2_with fail
        go_region_held3 (fun w' => w'.cell? ⟨b2, 2, none⟩ = some (.slice D2.a3 st.known.length D2.c3))
          (first | go_keep | assumption)
          (first
            | (go_at_call 17; refine (HKN.out _ (by first | exact HBb.out | exact below_drewN HBb.out _ | exact HBb.out.drew)).mono ?_; rintro e w10 ⟨V, c, rfl, hb6, hL⟩
               have HB6 := Lib.hid hb6
               have HL6 := Lib.hid (hL w10 (Below.refl _ _))
               clear r0 r1 r2 r3
               obtain ⟨r0, r1, r2, r3⟩ := HRC.out w10 hb6
               clear hb6 hL)
            | (go_at_call 16; refine HL6.out.mono ?_; rintro e w11 ⟨rfl, hb7⟩
               have HBc := Lib.hid hb7
               clear r0 r1 r2 r3
               obtain ⟨r0, r1, r2, r3⟩ := HRC.out w11 hb7
               clear hb7 HL6 HB6))
        go_wp2_with fail
        go_region_held3 (fun w' => w'.cell? ⟨b2, 3, none⟩ = some (.slice D2.a4 st.ops.length D2.c4))
          (first | go_keep | assumption)
          (first
            | (go_at_call 19; refine (HOS.out _ (by first | exact HBc.out | exact below_drewN HBc.out _ | exact HBc.out.drew)).mono ?_; rintro e w12 ⟨V, c, rfl, hb6, hL⟩
               have HB6 := Lib.hid hb6
               have HL6 := Lib.hid (hL w12 (Below.refl _ _))
               clear r0 r1 r2 r3
               obtain ⟨r0, r1, r2, r3⟩ := HRC.out w12 hb6
               clear hb6 hL)
            | (go_at_call 18; refine HL6.out.mono ?_; rintro e w13 ⟨rfl, hb7⟩
               have HBd := Lib.hid hb7
               clear r0 r1 r2 r3
               obtain ⟨r0, r1, r2, r3⟩ := HRC.out w13 hb7
               clear hb7 HL6 HB6))
        go_wp2_with fail
        go_region_held3 (fun w' => w'.cell? ⟨b2, 0, none⟩ = some (.slice D2.a1 st.book.length D2.c1))
          (first | go_keep | assumption)
          (first
            | (go_at_call 20; refine (HTX.out _ (by first | exact HBd.out | exact below_drewN HBd.out _ | exact HBd.out.drew)).mono ?_; rintro e w14 ⟨rfl, hb6⟩
               have HB6 := Lib.hid hb6
               clear r0 r1 r2 r3
               obtain ⟨r0, r1, r2, r3⟩ := HRC.out w14 hb6
               clear hb6)
            | (go_at_call 21; refine (HRT.out _ HB6.out).mono ?_; rintro e w15 ⟨rfl, hb7⟩
               have HBe := Lib.hid hb7
               clear r0 r1 r2 r3
               obtain ⟨r0, r1, r2, r3⟩ := HRC.out w15 hb7
               clear hb7 HB6))
        go_wp2_with fail
        go_roundw
        case rel => exact ⟨k + 1, by omega, by go_num, HPB.out _ HBe.out⟩
        case measure => simp [intOf]; omega
      · have k2 : ¬ (k : Int) < 60 := by omega
        have HBF := Lib.hid HK.out.below
        go_wp2_with fail
        go_ret
        exact ⟨rfl, HBF.out⟩
    · have k1 : ¬ (k : Int) < (ys.length : Int) := by omega
      have HBF := Lib.hid HK.out.below
      go_wp2_with fail
      go_ret
      exact ⟨rfl, HBF.out⟩
set_option maxRecDepth 100000 in
theorem lifted (os : Os) (started : os.Started) (H : Type) (enc : TypeId × Value → H) :
    ReturnsInHanded {} Tryz.checked os 3 .any (fun w args => (Rows.docPlaysSpec.pre enc Tryz.prog Tryz.f3 [] false w args ∧ laidMetH Tryz.prog Card.laid w) ∧ sizedMet enc Tryz.prog Tryz.f3 (OpenSpec.ofChange Rows.docPlaysSpec) false w args)
      (Rows.docPlaysSpec.post enc Tryz.prog Tryz.f3 false true false false) := by
  refine returnsInHanded_of_change_and (C := Tryz.checked) (X := fun w _ => laidMetH Tryz.prog Card.laid w) (fun _ _ _ hh h => h.of_heap hh) Tryz.own started (by kernel_rfl) Tryz.func3
    (ChangeSpec.witness_at (enc := enc) (C := Tryz.checked) (os := os) (X := fun w _ => laidMetH Tryz.prog Card.laid w) false (Card.laidWorld os) #[.slice none 0 0] 8 rfl (by kernel_rfl) (by kernel_rfl) (by kernel_rfl) (by kernel_rfl) (by kernel_rfl) (Card.laidWorld_met os _)) ?_
  intro W base args ds gs before hval0 hW _ hsz0 hL _
  have hval : ∀ (j : Nat) t v, Tryz.f3.params[j]? = some t → args[j]? = some v → Value.okWide Tryz.prog W .any base t v := hval0
  obtain ⟨p, q, hA0, _⟩ := id hW
  have hA : DataW.TrodAll enc Tryz.prog W 0 (fun _ => true) true Tryz.f3.params.toList args.toList ds p := hA0
  have hsz : (DataW.weightsEach Tryz.prog (Tryz.f3.params.toList ++ Rows.docPlaysSpec.plain.varTypes Tryz.prog) (ds ++ gs)).all (· ≤ reachBytes) = true := hsz0
  rw [Tryz.params3] at hA hval hsz
  obtain ⟨v0, d0, rfl, rfl, h0⟩ := trodAll_one hA
  obtain ⟨A0, c0, l0, rfl, r0, g0, lc0, cm0⟩ := arg_ops (hval 0 22 v0 rfl rfl) h0
  refine (walk W A0 c0 l0 (Card.glob_of_laid hL) r0 g0 (by unfold maxLen at cm0; omega)).mono fun e W' ⟨he, hb⟩ => ⟨_, he, ?_⟩
  exact law_post Tryz.laidOut (tb := 4) (by kernel_rfl) Tryz.underlying4 (by rw [Tryz.params3]; simp only [List.mem_cons, List.not_mem_nil, or_false]; rintro t (rfl) <;> exact ⟨by kernel_rfl, of_decide_eq_true (by kernel_rfl)⟩) rfl rfl hW hb

theorem holds : Rows.DocPlaysSaid :=
  OpenClaim.holds_of_wide 3 Tryz.f3 rfl rfl rfl rfl rfl rfl rfl ⟨rfl, rfl, rfl, rfl, rfl⟩ rfl rfl rfl rfl rfl (by kernel_rfl) Tryz.func3 (by kernel_rfl)
    (of_decide_eq_true (by kernel_rfl)) (by unfold Func.isWrapper; first | (rw [if_pos (by decide +kernel)]; kernel_rfl) | (rw [if_neg (by decide +kernel)]; exact ⟨rfl, rfl⟩))
    (fun os started H enc _ => lifted os started H enc)
theorem noStand : ∀ t ∈ Tryz.f3.params.toList, Tryz.prog.wantsStandIn t = false := by
  rw [Tryz.params3]
  simp only [List.mem_cons, List.not_mem_nil, or_false]
  rintro t (rfl) <;> kernel_rfl
theorem card_holds : Rows.DocPlaysCardSaid :=
  Claim7.holds_tied_plain_at .later [] [.handle] true Rows.docPlaysCard.stood.harness true
    holds (fun _ h => by cases h) (by kernel_rfl) (fun _ h => by cases h) docPlays_row_tie rfl ⟨rfl, rfl⟩ (by kernel_rfl) rfl
    (fun f fn hf hfn => by
      obtain rfl : f = 3 := Option.some.inj ((show Tryz.prog.funcNamed Rows.docPlaysRow.func = some 3 by kernel_rfl).symm.trans hf) |>.symm
      obtain rfl : fn = Tryz.f3 := (Option.some.inj (Tryz.func3.symm.trans hfn)).symm
      exact ⟨by kernel_rfl, fun j t ht => noStand t (by
        have := Array.mem_of_getElem? ht
        simpa using this)⟩)
    (by kernel_rfl)
#print axioms card_holds
end lawDocPlays
end Go.Proofs.YtgmdnmdniidngaaGreatDoor

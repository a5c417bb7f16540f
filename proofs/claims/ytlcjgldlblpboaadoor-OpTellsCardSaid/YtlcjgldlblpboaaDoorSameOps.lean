/- leafsame.Ops, walked. Conditions: few elements. -/
import Derived.Deep.RegionHeld3
import Derived.Test.YtlcjgldlblpboaaDoorSameOp
namespace Go.Proofs.YtlcjgldlblpboaaDoor
open Go.RowKit
set_option linter.unusedVariables false
namespace SameOps
def Loop (w : World) (l m : List OpAt) (i : Value) (wr : World) : Prop :=
  ∃ k : Nat, k ≤ l.length ∧ i = .int .i64 k ∧ Hid (Below w.heap.size w wr) ∧ Hid (decide (l.map OpAt.op = m.map OpAt.op) = decide ((l.drop k).map OpAt.op = (m.drop k).map OpAt.op))
theorem cells_at {w : World} {B : Nat} {A : Option Addr} {l : List OpAt} (h : Reads w B 6 A l.length (ocells l)) {k : Nat} (hk : k < l.length) : ∃ ad, A = some ad ∧ ad.block < B ∧ ∀ W : World, (∀ q : Addr, q.block = ad.block → W.cell? q = w.cell? q) → W.cell? (ad.add (k * 6)) = some (.int .i64 l[k].op.dot.who) ∧ W.cell? ⟨(ad.add (k * 6)).block, (ad.add (k * 6)).off + 1, none⟩ = some (.int .i64 l[k].op.dot.n) ∧ W.cell? ⟨(ad.add (k * 6)).block, (ad.add (k * 6)).off + 2, none⟩ = some (.int .i64 l[k].op.what) ∧
      W.cell? ⟨(ad.add (k * 6)).block, (ad.add (k * 6)).off + 3, none⟩ = some (.string l[k].op.place) ∧ W.cell? ⟨(ad.add (k * 6)).block, (ad.add (k * 6)).off + 4, none⟩ = some (.int .i64 l[k].op.letter) ∧ W.cell? ⟨(ad.add (k * 6)).block, (ad.add (k * 6)).off + 5, none⟩ = some (.slice l[k].at_ l[k].op.seen.length l[k].cap) := by
  obtain ⟨ad, e, hb, c0, c1, c2, c3, c4, c5⟩ := h.op hk
  refine ⟨ad, e, by simpa [block_of_add] using hb, fun W hW => ⟨(hW _ (block_of_add _ _)).trans c0, (hW ⟨_, _, none⟩ (block_of_add _ _)).trans c1, (hW ⟨_, _, none⟩ (block_of_add _ _)).trans c2, (hW ⟨_, _, none⟩ (block_of_add _ _)).trans c3, (hW ⟨_, _, none⟩ (block_of_add _ _)).trans c4, (hW ⟨_, _, none⟩ (block_of_add _ _)).trans c5⟩⟩
set_option maxRecDepth 100000 in
set_option maxHeartbeats 4000000 in
theorem any (w : World) (A G : Option Addr) (ca cg : Nat) (l m : List OpAt) (h1 : Reads w w.heap.size 6 A l.length (ocells l)) (h2 : Reads w w.heap.size 6 G m.length (ocells m)) (s1 : ∀ y ∈ l, Reads w w.heap.size 2 y.at_ y.op.seen.length (dcells y.op.seen) ∧ y.op.seen.length ≤ 9223372036854775807)
    (s2 : ∀ y ∈ m, Reads w w.heap.size 2 y.at_ y.op.seen.length (dcells y.op.seen) ∧ y.op.seen.length ≤ 9223372036854775807) (hl : l.length ≤ 9223372036854775807) (hm : m.length ≤ 9223372036854775807) :
    Calls Tryd.prog 16 #[.slice A l.length ca, .slice G m.length cg] w (CheckPost w (.bool (decide (l.map OpAt.op = m.map OpAt.op)))) := by
  have HR := Lib.hid h1
  have HS := Lib.hid h2
  have HSL := Lib.hid s1
  have HSM := Lib.hid s2
  clear h1 h2 s1 s2
  by_cases hlm : l.length = m.length
  · have HLM := Lib.hid hlm
    have e0 : ((l.length : Int) != (m.length : Int)) = false := by simp [hlm]
    have e1 : ((l.length : Int) == (m.length : Int)) = true := by simp [hlm]
    clear hlm
    go_enter Tryd.func16, Tryd.ntmps16
    go_wp2_with fail
    go_loopw [5] (fun i wr => Loop w l m i wr) (fun i _ => l.length - (intOf i).toNat)
    case atStart => exact ⟨0, by omega, rfl, Below.refl _ _, Lib.hid rfl⟩
    case round =>
      obtain ⟨k, hk, rfl, HB, HE⟩ := hrel
      by_cases hkn : k < l.length
      · have hkm : k < m.length := by have := HLM.out; omega
        obtain ⟨ad, rfl, hab, hcl⟩ := cells_at (HR.out.below HB.out) hkn
        obtain ⟨ag, rfl, hag, hcm⟩ := cells_at (HS.out.below HB.out) hkm
        have HCL : Hid (∀ W, Below wr.heap.size wr W → _) := fun W hW => hcl W (fun q hq => hW.cell (by rw [hq]; exact Nat.lt_of_lt_of_le hab HB.out.size))
        have HCM : Hid (∀ W, Below wr.heap.size wr W → _) := fun W hW => hcm W (fun q hq => hW.cell (by rw [hq]; exact Nat.lt_of_lt_of_le hag HB.out.size))
        obtain ⟨c0, c1, c2, c3, c4, c5⟩ := HCL.out wr (Below.refl _ _)
        obtain ⟨g0, g1, g2, g3, g4, g5⟩ := HCM.out wr (Below.refl _ _)
        have k1 : (k : Int) < (l.length : Int) := by omega
        have k2 : (k : Int) < (m.length : Int) := by omega
        have k0 : (0 : Int) ≤ (k : Int) := by omega
        have hdr : ((l.drop k).map OpAt.op = (m.drop k).map OpAt.op) = (l[k].op = m[k].op ∧ (l.drop (k + 1)).map OpAt.op = (m.drop (k + 1)).map OpAt.op) := by
          rw [List.drop_eq_getElem_cons hkn, List.drop_eq_getElem_cons hkm, List.map_cons, List.map_cons, List.cons.injEq]
        have HDR := Lib.hid hdr
        have hx := HSL.out _ (List.getElem_mem hkn)
        have hy := HSM.out _ (List.getElem_mem hkm)
        have HC := Lib.hid (fun W (hW : Below w.heap.size w W) => SameOp.any W l[k].op m[k].op l[k].at_ m[k].at_ l[k].cap m[k].cap ((hx.1.below hW).more hW.size) ((hy.1.below hW).more hW.size) hx.2 hy.2)
        obtain ⟨bb, hbb⟩ : ∃ bb, bb = decide (l[k].op = m[k].op) := ⟨_, rfl⟩
        rw [← hbb] at HC
        have HBB := Lib.hid hbb
        clear hdr hx hy hcl hcm hab hag hbb
        generalize l[k] = x at *
        generalize m[k] = y at *
        obtain ⟨⟨⟨xw, xn⟩, xa, xp, xl, xs⟩, xA, xc⟩ := x
        obtain ⟨⟨⟨yw, yn⟩, ya, yp, yl, ys⟩, yA, yc⟩ := y
        unfold LOp.val at HC
        simp only at HC HDR HBB HCL HCM c0 c1 c2 c3 c4 c5 g0 g1 g2 g3 g4 g5
        go_wp2_with fail
        go_region_held3 (fun w' => (w'.cell? (ad.add (k * 6)) = some (.int .i64 xw) ∧ w'.cell? ⟨(ad.add (k * 6)).block, (ad.add (k * 6)).off + 1, none⟩ = some (.int .i64 xn) ∧ w'.cell? ⟨(ad.add (k * 6)).block, (ad.add (k * 6)).off + 2, none⟩ = some (.int .i64 xa) ∧ w'.cell? ⟨(ad.add (k * 6)).block, (ad.add (k * 6)).off + 3, none⟩ = some (.string xp) ∧ w'.cell? ⟨(ad.add (k * 6)).block, (ad.add (k * 6)).off + 4, none⟩ = some (.int .i64 xl) ∧ w'.cell? ⟨(ad.add (k * 6)).block, (ad.add (k * 6)).off + 5, none⟩ = some (.slice xA xs.length xc) ∧
            w'.cell? (ag.add (k * 6)) = some (.int .i64 yw) ∧ w'.cell? ⟨(ag.add (k * 6)).block, (ag.add (k * 6)).off + 1, none⟩ = some (.int .i64 yn) ∧ w'.cell? ⟨(ag.add (k * 6)).block, (ag.add (k * 6)).off + 2, none⟩ = some (.int .i64 ya) ∧ w'.cell? ⟨(ag.add (k * 6)).block, (ag.add (k * 6)).off + 3, none⟩ = some (.string yp) ∧ w'.cell? ⟨(ag.add (k * 6)).block, (ag.add (k * 6)).off + 4, none⟩ = some (.int .i64 yl) ∧ w'.cell? ⟨(ag.add (k * 6)).block, (ag.add (k * 6)).off + 5, none⟩ = some (.slice yA ys.length yc)))
          (first | go_keep | (refine ⟨?_, ?_, ?_, ?_, ?_, ?_, ?_, ?_, ?_, ?_, ?_, ?_⟩ <;> assumption))
          ((go_at_call 11; refine (HC.out _ (by first | exact HB.out | exact below_drewN HB.out _ | exact HB.out.drew)).mono ?_; rintro e w3 ⟨rfl, hb3⟩
            have hbw : Below wr.heap.size wr w3 := by first | exact hb3 | exact below_of_drewN (n := 1) hb3
            have HB3 : Hid (Below w.heap.size w w3) := HB.out.trans (hbw.mono HB.out.size)
            clear c0 c1 c2 c3 c4 c5 g0 g1 g2 g3 g4 g5
            obtain ⟨c0, c1, c2, c3, c4, c5⟩ := HCL.out _ hbw
            obtain ⟨g0, g1, g2, g3, g4, g5⟩ := HCM.out _ hbw
            clear hb3 hbw))
        cases bb with
        | true =>
          have HEN : Hid (decide (l.map OpAt.op = m.map OpAt.op) = decide ((l.drop (k + 1)).map OpAt.op = (m.drop (k + 1)).map OpAt.op)) := by
            show _ = _
            rw [HE.out]
            rw [Bool.eq_iff_iff, decide_eq_true_iff, decide_eq_true_iff, HDR.out]
            exact ⟨fun h => h.2, fun h => ⟨of_decide_eq_true HBB.out.symm, h⟩⟩
          clear HDR HE HBB
          go_wp2_with fail
          go_roundw
          case rel => exact ⟨k + 1, by omega, by go_num, HB3, HEN⟩
          case measure => simp [intOf]; omega
        | false =>
          have HEN : Hid (decide (l.map OpAt.op = m.map OpAt.op) = false) := by
            show _ = _
            rw [HE.out, decide_eq_false_iff_not, HDR.out]
            exact fun h => of_decide_eq_false HBB.out.symm h.1
          clear HDR HE HBB
          go_wp2_with fail
          go_ret
          exact ⟨by rw [HEN.out]; rfl, HB3.out⟩
      · have k1 : ¬ (k : Int) < (l.length : Int) := by omega
        have HEN : Hid (decide (l.map OpAt.op = m.map OpAt.op) = true) := by
          show _ = _
          rw [HE.out, List.drop_of_length_le (by omega), List.drop_of_length_le (by have := HLM.out; omega)]
          rfl
        go_wp2_with fail
        go_ret
        exact ⟨by rw [HEN.out]; rfl, HB.out⟩
  · have e0 : ((l.length : Int) != (m.length : Int)) = true := by simp; omega
    have HEN : Hid (decide (l.map OpAt.op = m.map OpAt.op) = false) := by
      show _ = _
      rw [decide_eq_false_iff_not]
      intro h
      have := congrArg List.length h
      simp at this
      exact hlm this
    clear hlm
    go_enter Tryd.func16, Tryd.ntmps16
    go_wp2_with fail
    go_ret
    exact ⟨by rw [HEN.out]; rfl, Below.refl _ _⟩
end SameOps
end Go.Proofs.YtlcjgldlblpboaaDoor

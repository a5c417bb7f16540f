/- leafref2.Runs, walked. Conditions: the book is right. -/
import Derived.Test.YtgmdnmdniidngaaDoorRefBetween2
import Derived.Test.YtgmdnmdniidngaaDoorStat
namespace Go.Proofs.YtgmdnmdniidngaaDoor
open Go.RowKit
set_option linter.unusedVariables false
def RRunsPost (w : World) (l : List LLeaf) (e : Ending) (w' : World) : Prop :=
  ∃ V c, e = .returned (.slice V (runsOf l).length c) ∧ Own w' w.heap.size 27 2 V (runsOf l).length c (rcells (runsOf l)) ∧ Below w.heap.size w w'
set_option maxRecDepth 100000 in
set_option maxHeartbeats 8000000 in
theorem rruns_any (w : World) (A : Option Addr) (c : Nat) (l : List LLeaf) (h : Reads w w.heap.size 3 A l.length (lcells l)) (hb : BookOk l) :
    Calls Tryd.prog 8 #[.slice A l.length c] w (RRunsPost w l) := by
  have HR := Lib.hid h
  have HBO := Lib.hid hb
  have hfew := hb.few
  have HS := Lib.hid (fun w x => rseen_any w x)
  clear h hb
  go_enter Tryd.func8, Tryd.ntmps8
  go_wp2_with fail
  go_loopw [3, 4] (fun v i wr => RunsLoop w l v i wr) (fun _ i _ => l.length - (intOf i).toNat)
  case atStart => exact ⟨0, 0, none, Nat.zero_le _, rfl, rfl, Own.nil _ _ _ _, Below.refl _ _⟩
  case round =>
    obtain ⟨k, cv, V, hk, rfl, rfl, HO, HB⟩ := hrel
    have k0 : (0 : Int) ≤ (k : Int) := by omega
    by_cases hlt : k < l.length
    · have k1 : (k : Int) < (l.length : Int) := by omega
      obtain ⟨ad, rfl, hal, c0, c1, c2⟩ := (HR.out.below HB.out).leaf hlt
      have HT := Lib.hid (runsOf_take hlt)
      have HLF := Lib.hid (HBO.out.leafs _ (List.getElem_mem hlt))
      have hrl := runsOf_len (l.take k)
      rw [List.length_take] at hrl
      have HRL := Lib.hid (run_le (l.take k))
      generalize l[k] = x at *
      obtain ⟨p, n, s⟩ := x
      simp only at c0 c1 c2 HT
      have HWH := Lib.hid (fun W => rwho_any W p HLF.out.place)
      have HAL := Lib.hid (show ad.block < wr.heap.size by have := HB.out.size; omega)
      have HOX := Lib.hid HO.out
      have HBX := Lib.hid HB.out
      generalize hrs : runsOf (l.take k) = rs at *
      clear hrs
      cases hsn : seenB ⟨p, n, s⟩ with
      | false =>
        rw [hsn] at HT
        have HS1 := Lib.hid (HS.out wr ⟨p, n, s⟩)
        rw [hsn] at HS1
        simp only [Bool.false_eq_true, if_false] at HT
        clear hsn HWH
        go_wp2_with fail
        refine HS1.out.mono ?_
        rintro e w2 ⟨rfl, hb2⟩
        have HO2 := Lib.hid (HOX.out.below hb2)
        have HB2 := Lib.hid (HBX.out.trans (hb2.mono HBX.out.size))
        clear hb2
        go_wp2_with fail
        go_roundw
        case rel => exact ⟨k + 1, cv, V, by omega, by go_num, by rw [HT.out], by rw [HT.out]; exact HO2, HB2⟩
        case measure => simp [intOf]; omega
      | true =>
        rw [hsn] at HT
        have HS1 := Lib.hid (HS.out wr ⟨p, n, s⟩)
        rw [hsn] at HS1
        simp only [if_true] at HT
        have HW1 : Hid (∀ W : World, Calls Tryd.prog 17 #[.string p] W fun e w' => e = .returned (.int .i64 (whoP p)) ∧ w' = W) := fun W => by
          have h1 := HWH.out W
          have h2 : placeErr p = 0 := HLF.out.place
          rw [(whoP_place h2).1] at h1
          exact h1
        clear hsn HWH
        generalize whoP p = who at *
        go_wp2_with fail
        refine HS1.out.mono ?_
        rintro e w2 ⟨rfl, hb2⟩
        have HO2 := Lib.hid (HOX.out.below hb2)
        have HB2 := Lib.hid (HBX.out.trans (hb2.mono HBX.out.size))
        have b0 := (hb2.cell (p := _) (show (ad.add (k * 3)).block < wr.heap.size by have h := HAL.out; unfold Addr.add; split <;> exact h)).trans c0
        clear hb2
        go_wp2_with fail
        refine (HW1.out _).mono ?_
        rintro e w3 ⟨rfl, hw⟩
        obtain rfl := hw.symm
        clear hw
        have HO3 := Lib.hid HO2.out
        have HB3 := Lib.hid HB2.out
        have hw3 : w.heap.size ≤ w2.heap.size := HB3.out.size
        clear HW1 HS1 c0 c1 c2 b0 HO2 HB2 HBX HOX
        rcases runAdd_cases rs who with ⟨e0, e1⟩ | ⟨r, hr, hrl2, ⟨e1, e2⟩ | ⟨e1, e2⟩⟩
        · have HT' : Hid (runsOf (l.take (k + 1)) = rs ++ [(who, 1)]) := by show _ = _; rw [HT.out, e1]
          have HRO := Lib.hid (fun W : World => Reads.row W 27 #[.int .i64 who, .int .i64 1])
          have HON := Lib.hid (oneCells_r [(who, 1)])
          have hF : Fits (rs.length + 1) 16 := Fits.of_small (by omega) (by decide)
          have q1 : IntKind.i64.wrap ((rs.length : Int) - 1) = (rs.length : Int) - 1 := IntWalk.i64_in _ (by omega)
          have n0 : ¬ (0 : Int) ≤ (rs.length : Int) - 1 := by omega
          clear e0 e1 HT
          go_wp2_with (at_builtin; go_loud (refine wpList_app _ (.tmp 51) (.tmp 54) rfl rfl elemR rfl rfl (HO3.out.alloc _) (HRO.out _) HON.out hF (by simp; omega) ?_; intro V2 cv2 w4 HO4 HL4 HX4; have HOn := Lib.hid HO4; have HBn : Hid (Below w.heap.size w w4) := (HB3.out.alloc HB3.out.size _).trans (HL4.below (by simp; omega) (fun g hg => (HO3.out.lt g hg).1)); clear HO4 HL4 HX4))
          go_roundw
          case rel => exact ⟨k + 1, cv2, V2, by omega, by go_num, by rw [HT'.out]; simp, by rw [HT'.out, rcells_app, List.length_append]; exact HOn, HBn⟩
          case measure => simp [intOf]; omega
        · have HT' : Hid (runsOf (l.take (k + 1)) = rs.set r (rs[r].1, rs[r].2 + 1)) := by show _ = _; rw [HT.out, e2]
          obtain ⟨g, rfl, hg1, hg2⟩ := HO3.out.head (by omega)
          have a0 : w2.cell? ⟨g, r * 2, none⟩ = some (.int .i64 rs[r].1) := by rw [HO3.out.cellAt (by omega), show r * 2 = r * 2 + 0 from rfl, rcells_at rs r 0 hr (by omega)]; rfl
          have a1 : w2.cell? ⟨g, r * 2 + 1, none⟩ = some (.int .i64 rs[r].2) := by rw [HO3.out.cellAt (by omega), rcells_at rs r 1 hr (by omega)]; rfl
          have f1 := HO3.out.frozenAt (r * 2 + 1)
          have hrb := HRL.out _ (List.getElem_mem hr)
          have hlk : (l.take k).length ≤ 300 := by rw [List.length_take]; omega
          have q1 : IntKind.i64.wrap ((rs.length : Int) - 1) = (r : Int) := by rw [IntWalk.i64_in _ (by omega)]; omega
          have q2 : IntKind.i64.wrap (rs[r].2 + 1) = rs[r].2 + 1 := IntWalk.i64_in _ (by omega)
          have n0 : (0 : Int) ≤ (r : Int) := by omega
          have n1 : (r : Int) < (rs.length : Int) := by omega
          have HST := Lib.hid (HO3.out.storeN (k := r * 2 + 1) (by omega) (.int .i64 (rs[r].2 + 1)))
          rw [rcells_set rs r hr] at HST
          have hwb : (rs[r].1 == who) = true := by rw [beq_iff_eq]; exact e1
          clear e1 e2 HT hrl2
          generalize hx1 : rs[r].1 = x1 at *
          generalize hx2 : rs[r].2 = x2 at *
          clear hx1 hx2
          go_wp2_with fail
          go_region
          all_goals
            go_wp2_with fail
            go_roundw
            case rel => exact ⟨k + 1, cv, some ⟨g, 0, none⟩, by omega, by go_num, by rw [HT'.out]; simp, by rw [HT'.out, List.length_set]; exact HST.out.drewN 1, (HB3.out.drew.setCell (by omega) _)⟩
            case measure => simp [intOf]; omega
        · have HT' : Hid (runsOf (l.take (k + 1)) = rs ++ [(who, 1)]) := by show _ = _; rw [HT.out, e2]
          obtain ⟨g, rfl, hg1, hg2⟩ := HO3.out.head (by omega)
          have a0 : w2.cell? ⟨g, r * 2, none⟩ = some (.int .i64 rs[r].1) := by rw [HO3.out.cellAt (by omega), show r * 2 = r * 2 + 0 from rfl, rcells_at rs r 0 hr (by omega)]; rfl
          have q1 : IntKind.i64.wrap ((rs.length : Int) - 1) = (r : Int) := by rw [IntWalk.i64_in _ (by omega)]; omega
          have n0 : (0 : Int) ≤ (r : Int) := by omega
          have n1 : (r : Int) < (rs.length : Int) := by omega
          have hwb : (rs[r].1 == who) = false := by rw [beq_eq_false_iff_ne]; exact e1
          have HRO := Lib.hid (fun W : World => Reads.row W 27 #[.int .i64 who, .int .i64 1])
          have HON := Lib.hid (oneCells_r [(who, 1)])
          have hF : Fits (rs.length + 1) 16 := Fits.of_small (by omega) (by decide)
          clear e1 e2 HT hrl2
          generalize hx1 : rs[r].1 = x1 at *
          clear hx1
          go_wp2_with (at_builtin; go_loud (refine wpList_app _ (.tmp 51) (.tmp 54) rfl rfl elemR rfl rfl (HO3.out.alloc _) (HRO.out _) HON.out hF (by simp; omega) ?_; intro V2 cv2 w4 HO4 HL4 HX4; have HOn := Lib.hid HO4; have HBn : Hid (Below w.heap.size w w4) := (HB3.out.alloc HB3.out.size _).trans (HL4.below (by simp; omega) (fun g hg => (HO3.out.lt g hg).1)); clear HO4 HL4 HX4))
          go_roundw
          case rel => exact ⟨k + 1, cv2, V2, by omega, by go_num, by rw [HT'.out]; simp, by rw [HT'.out, rcells_app, List.length_append]; exact HOn, HBn⟩
          case measure => simp [intOf]; omega
    · have k1 : ¬ (k : Int) < (l.length : Int) := by omega
      obtain rfl : k = l.length := by omega
      rw [List.take_length] at HO
      have HO' := Lib.hid HO.out
      go_wp2_with fail
      go_ret
      exact ⟨V, cv, rfl, HO'.out, HB.out⟩
end Go.Proofs.YtgmdnmdniidngaaDoor

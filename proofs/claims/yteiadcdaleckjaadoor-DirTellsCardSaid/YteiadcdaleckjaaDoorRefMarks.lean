/- The document's Marks, With, Without, walked. Conditions: places that an int may count. -/
import Derived.Deep.CutBlock
import Derived.Test.YteiadcdaleckjaaDoorMarkCut
import Derived.Test.YteiadcdaleckjaaDoorRefDot
import Derived.Test.YteiadcdaleckjaaDoorRefIn
import Derived.Test.YteiadcdaleckjaaDoorSameMarks
namespace Go.Proofs.YteiadcdaleckjaaDoor
open Go.RowKit
set_option linter.unusedVariables false
set_option maxRecDepth 100000 in
set_option maxHeartbeats 4000000 in
theorem rmarks_any (w : World) (A : Option Addr) (c : Nat) (l : List LMark) (h : Reads w w.heap.size 3 A l.length (mcells l)) (hs : MSized l) (hn : l.length ≤ 9223372036854775807) :
    Calls Tryd.prog 14 #[.slice A l.length c] w (CheckPost w (.int .i64 (marksErr l))) := by
  have HR := Lib.hid h
  have HM := Lib.hid (fun w (x : LMark) (hx : x.place.size ≤ 9223372036854775807) => rmark_any w x hx)
  have HO := Lib.hid (fun w (a b : LMark) => rbefore_any w a b)
  have HSz := Lib.hid hs
  clear h hs
  by_cases h3 : 40 < l.length
  · have HE : Hid (marksErr l = 4) := if_pos h3
    go_enter Tryd.func14, Tryd.ntmps14
    go_wp2_with fail
    go_ret
    exact ⟨by rw [HE.out]; rfl, Below.refl _ _⟩
  · have hl3 : l.length ≤ 40 := by omega
    have HE0 : Hid (marksErr l = marksFault none l) := if_neg h3
    clear h3 hn
    go_enter Tryd.func14, Tryd.ntmps14
    go_wp2_with fail
    go_loopw [3] (fun i wr => MarksLoop w l i wr) (fun i _ => l.length - (intOf i).toNat)
    case atStart => exact ⟨0, by omega, rfl, Below.refl _ _, HE0⟩
    case round =>
      obtain ⟨k, hk, rfl, HB, HE⟩ := hrel
      by_cases hkn : k < l.length
      · obtain ⟨ad, rfl, hb, c0, c1, c2⟩ := (HR.out.below HB.out).mark hkn
        have hlt : (k : Int) < (l.length : Int) := by omega
        have hk0' : (0 : Int) ≤ (k : Int) := by omega
        have hpre : mprevAt l (k + 1) = some l[k] := by unfold mprevAt; rw [if_neg (by omega)]; simp [hkn]
        have hsz := HSz.out l[k] (List.getElem_mem hkn)
        have hE2 := HE.out
        rw [List.drop_eq_getElem_cons hkn, marksFault_cons] at hE2
        generalize l[k] = x at hsz hE2 hpre c0 c1 c2
        obtain ⟨p, ⟨d, n⟩⟩ := x
        simp only at hsz c0 c1 c2
        have HP1 := Lib.hid hpre
        have HE2 := Lib.hid hE2
        have hszb : w.heap.size ≤ wr.heap.size := HB.out.size
        clear hpre hE2
        have HPrev : Hid (∀ j, k = j + 1 → ∃ (hj : j < l.length), mprevAt l k = some l[j]) := fun j hj => ⟨by omega, by unfold mprevAt; rw [if_neg (by omega)]; simp [hj, show j < l.length by omega]⟩
        by_cases hp : markErr ⟨p, ⟨d, n⟩⟩ = 0
        · have HP := Lib.hid hp
          have g0 : (markErr ⟨p, ⟨d, n⟩⟩ != 0) = false := by simp [hp]
          clear hp
          go_wp2_with fail
          refine (HM.out _ ⟨p, ⟨d, n⟩⟩ hsz).mono ?_
          rintro e w1 ⟨rfl, hb1⟩
          have HB1 : Hid (Below w.heap.size w w1) := HB.out.trans (hb1.mono HB.out.size)
          have HR1 := HR.out.below HB1.out
          obtain ⟨ad2, had2, hb2, d0, d1, d2⟩ := HR1.mark hkn
          clear hb1 c0 c1 c2
          rcases Nat.eq_zero_or_pos k with hk0 | hk0
          · subst hk0
            have HF : Hid (marksErr l = marksFault (some ⟨p, ⟨d, n⟩⟩) (l.drop 1)) := by
              show _ = _
              rw [HE2.out, if_neg (fun h => h HP.out), if_neg (by simp [mClash, mprevAt])]
            clear HE2 HPrev had2 d0 d1 d2
            go_wp2_with fail
            go_quiet (fail)
            go_wp2_with fail
            go_roundw
            case rel => exact ⟨1, by omega, rfl, below_drewN HB1.out _, by rw [HP1.out]; exact HF⟩
            case measure => simp [intOf]; omega
          · obtain ⟨j, rfl⟩ : ∃ j, k = j + 1 := ⟨k - 1, by omega⟩
            obtain ⟨hj, hpv⟩ := HPrev.out j rfl
            obtain rfl : ad = ad2 := by injection had2
            obtain ⟨ad3, had3, hb3, e0, e1, e2⟩ := HR1.mark hj
            obtain rfl : ad = ad3 := by injection had3
            have HR1 := Lib.hid HR1
            have q1 : IntKind.i64.wrap ((j : Int) + 1 - 1) = (j : Int) := by rw [IntWalk.i64_in _ (by omega)]; omega
            have j0 : (0 : Int) ≤ (j : Int) := by omega
            have j1 : (j : Int) < (l.length : Int) := by omega
            have j3 : (0 : Int) ≤ (j : Int) + 1 := by omega
            have j4 : ((j : Int) + 1).toNat = j + 1 := by omega
            have j5 : (j : Int) + 1 < (l.length : Int) := by omega
            have j6 : (0 : Int) ≤ ((j + 1 : Nat) : Int) := by omega
            have j7 : j + 1 < l.length := by omega
            have q2 : IntKind.i64.wrap (((j + 1 : Nat) : Int) - 1) = (j : Int) := by rw [IntWalk.i64_in _ (by omega)]; omega
            have q3 : IntKind.i64.wrap (j : Int) = (j : Int) := by rw [IntWalk.i64_in _ (by omega)]
            have k0 : (((j + 1 : Nat) : Int) == 0) = false := by rw [beq_eq_false_iff_ne]; omega
            have k1 : ((j : Int) + 1 == 0) = false := by rw [beq_eq_false_iff_ne]; omega
            have hHPV := Lib.hid hpv
            have hE1 : Hid (l[j + 1] = ⟨p, ⟨d, n⟩⟩) := by
              show _ = _
              have := HP1.out
              unfold mprevAt at this
              rw [if_neg (by omega)] at this
              have e : l[j + 1]? = some l[j + 1] := List.getElem?_eq_getElem hkn
              rw [show j + 1 + 1 - 1 = j + 1 by omega, e] at this
              exact Option.some.inj this
            rw [hE1.out] at d0 d1 d2
            simp only at d0 d1 d2
            clear hpv had2 had3 HPrev
            generalize hlj : l[j] = y at *
            obtain ⟨py, ⟨dy, ny⟩⟩ := y
            simp only at e0 e1 e2
            have HF : Hid (marksErr l = if (0 : Int) ≤ ordM ⟨py, ⟨dy, ny⟩⟩ ⟨p, ⟨d, n⟩⟩ then 7 else marksFault (some ⟨p, ⟨d, n⟩⟩) (l.drop (j + 1 + 1))) := by
              show _ = _
              rw [HE2.out, if_neg (fun h => h HP.out), hHPV.out]
              simp [mClash]
            have HO1 := Lib.hid (fun w => HO.out w ⟨py, ⟨dy, ny⟩⟩ ⟨p, ⟨d, n⟩⟩)
            have HLT : Hid (ltMb ⟨py, ⟨dy, ny⟩⟩ ⟨p, ⟨d, n⟩⟩ = decide (ordM ⟨py, ⟨dy, ny⟩⟩ ⟨p, ⟨d, n⟩⟩ < 0)) := rfl
            have hbk : ∀ k, Hid ((ad.add (k * 3)).block < w1.heap.size) := fun k => by have := HB1.out.size; show (ad.add (k * 3)).block < w1.heap.size; rw [block_of_add]; omega
            clear HE2 hlj
            generalize ltMb ⟨py, ⟨dy, ny⟩⟩ ⟨p, ⟨d, n⟩⟩ = bv at HLT HO1
            go_wp2_with fail
            go_region_held3 (fun w' => w'.cell? (ad.add (j * 3)) = some (.string py) ∧ w'.cell? ⟨(ad.add (j * 3)).block, (ad.add (j * 3)).off + 1, none⟩ = some (.int .i64 dy) ∧ w'.cell? ⟨(ad.add (j * 3)).block, (ad.add (j * 3)).off + 2, none⟩ = some (.int .i64 ny) ∧ w'.cell? (ad.add ((j + 1) * 3)) = some (.string p) ∧ w'.cell? ⟨(ad.add ((j + 1) * 3)).block, (ad.add ((j + 1) * 3)).off + 1, none⟩ = some (.int .i64 d) ∧ w'.cell? ⟨(ad.add ((j + 1) * 3)).block, (ad.add ((j + 1) * 3)).off + 2, none⟩ = some (.int .i64 n))
                (first
                  | go_keep
                  | (refine ⟨?_, ?_, ?_, ?_, ?_, ?_⟩ <;> assumption))
                (first
                  | (go_at_call 28; refine (HO1.out _).mono ?_; rintro e3 w2 ⟨rfl, hb3'⟩; have hb3 : Below w1.heap.size w1 w2 := below_of_drew hb3'; have k0 := (hb3.cell (hbk j).out).trans e0; have k1 := (hb3.cell (p := ⟨(ad.add (j * 3)).block, (ad.add (j * 3)).off + 1, none⟩) (hbk j).out).trans e1; have k2 := (hb3.cell (p := ⟨(ad.add (j * 3)).block, (ad.add (j * 3)).off + 2, none⟩) (hbk j).out).trans e2; have k3 := (hb3.cell (hbk (j + 1)).out).trans d0; have k4 := (hb3.cell (p := ⟨(ad.add ((j + 1) * 3)).block, (ad.add ((j + 1) * 3)).off + 1, none⟩) (hbk (j + 1)).out).trans d1; have k5 := (hb3.cell (p := ⟨(ad.add ((j + 1) * 3)).block, (ad.add ((j + 1) * 3)).off + 2, none⟩) (hbk (j + 1)).out).trans d2; have HB3 := Lib.hid (HB1.out.trans (hb3.mono HB1.out.size)); clear hb3 hb3'))
            cases hbv : bv with
            | false =>
              have HFF : Hid (marksErr l = 7) := by
                show _ = _
                have h := HLT.out
                rw [hbv] at h
                have := of_decide_eq_false h.symm
                rw [HF.out, if_pos (by omega)]
              subst hbv
              go_wp2_with fail
              go_ret
              exact ⟨by rw [HFF.out]; rfl, HB3.out⟩
            | true =>
              have HFF : Hid (marksErr l = marksFault (some ⟨p, ⟨d, n⟩⟩) (l.drop (j + 1 + 1))) := by
                show _ = _
                have h := HLT.out
                rw [hbv] at h
                have := of_decide_eq_true h.symm
                rw [HF.out, if_neg (by omega)]
              subst hbv
              go_wp2_with fail
              go_roundw
              case rel => exact ⟨j + 1 + 1, by omega, by go_num, HB3, by rw [HP1.out]; exact HFF⟩
              case measure => simp [intOf]; omega
        · have HF : Hid (marksErr l = markErr ⟨p, ⟨d, n⟩⟩) := by
            show _ = _
            rw [HE2.out, if_pos hp]
          have g0 : (markErr ⟨p, ⟨d, n⟩⟩ != 0) = true := by simp [hp]
          clear hp
          go_wp2_with fail
          refine (HM.out _ ⟨p, ⟨d, n⟩⟩ hsz).mono ?_
          rintro e w1 ⟨rfl, hb1⟩
          go_wp2_with fail
          go_ret
          exact ⟨by rw [HF.out]; rfl, HB.out.trans (hb1.mono HB.out.size)⟩
      · have hd : decide ((k : Int) < (l.length : Int)) = false := by simp; omega
        have HF : Hid (marksErr l = 0) := by
          have := HE.out
          rw [List.drop_of_length_le (by omega), marksFault] at this
          exact this
        go_wp2_with fail
        go_ret
        exact ⟨by rw [HF.out]; rfl, HB.out⟩
def withErr (l : List LMark) (m : LMark) : Int := if hasM l m = true then 0 else if 40 ≤ l.length then 4 else 0
/-- Marks and a number are given back: a row of the call's own, or the one that came. -/
def RMarksPost (w : World) (A : Option Addr) (c0 : Nat) (l0 l : List LMark) (k : Int) (e : Ending) (w' : World) : Prop :=
  ∃ V c, e = .returned (.tuple #[.slice V l.length c, .int .i64 k]) ∧ (Own w' w.heap.size 71 3 V l.length c (mcells l) ∨ (V = A ∧ c = c0 ∧ l = l0)) ∧ Below w.heap.size w w'
def WithLoop (w : World) (l : List LMark) (m : LMark) (i : Value) (wr : World) : Prop :=
  ∃ k : Nat, k ≤ l.length ∧ i = .int .i64 k ∧ Hid (Below w.heap.size w wr) ∧ Hid (∀ j (hj : j < l.length), j < k → ltM l[j] m)
def AtAhead (w : World) (l : List LMark) (m : LMark) (i : Value) (wr : World) : Prop :=
  ∃ k : Nat, k ≤ l.length ∧ i = .int .i64 k ∧ Hid (aheadM l m = k) ∧ Hid (Below w.heap.size w wr)
end Go.Proofs.YteiadcdaleckjaaDoor

/- The document's Marks, With, Without, walked. Conditions: places that an int may count. -/
import Derived.Test.YtpofdjikogoobaaDoorRefDot
import Derived.Test.YtpofdjikogoobaaDoorRefIn
import Derived.Test.YtpofdjikogoobaaDoorMarkCut
import Derived.Test.YtpofdjikogoobaaDoorSameMarks
import Derived.Deep.CutBlock
namespace Go.Proofs.YtpofdjikogoobaaDoor
open Go.RowKit
set_option linter.unusedVariables false
set_option maxRecDepth 100000 in
set_option maxHeartbeats 4000000 in
theorem rmarks_any (w : World) (A : Option Addr) (c : Nat) (l : List LMark) (h : Reads w w.heap.size 3 A l.length (mcells l)) (hs : MSized l) (hn : l.length ≤ 9223372036854775807) :
    Calls Tryd.prog 58 #[.slice A l.length c] w (CheckPost w (.int .i64 (marksErr l))) := by
  have HR := Lib.hid h
  have HM := Lib.hid (fun w (x : LMark) (hx : x.place.size ≤ 9223372036854775807) => rmark_any w x hx)
  have HO := Lib.hid (fun w (a b : LMark) => rbefore_any w a b)
  have HSz := Lib.hid hs
  clear h hs
  by_cases h3 : 40 < l.length
  · have HE : Hid (marksErr l = 4) := if_pos h3
    go_enter Tryd.func58, Tryd.ntmps58
    go_wp2_with fail
    go_ret
    exact ⟨by rw [HE.out]; rfl, Below.refl _ _⟩
  · have hl3 : l.length ≤ 40 := by omega
    have HE0 : Hid (marksErr l = marksFault none l) := if_neg h3
    clear h3 hn
    go_enter Tryd.func58, Tryd.ntmps58
    go_wp2_with fail
    go_loopw [3] (fun i wr => MarksLoop w l i wr) (fun i _ => l.length - (intOf i).toNat)
    case atStart => exact ⟨0, by omega, rfl, Below.refl _ _, HE0⟩
    case round =>
      obtain ⟨k, hk, rfl, HB, HE⟩ := hrel
      by_cases hkn : k < l.length
      · obtain ⟨ad, rfl, hb, c0, c1, c2⟩ := (HR.out.below HB.out).mark hkn
        have hlt : (k : Int) < (l.length : Int) := by omega
        have hk0' : (0 : Int) ≤ (k : Int) := by omega
        have hpre : mprevAt l (k + 1) = some l[k] := by unfold mprevAt; rw [if_neg (by omega)]; simp [hkn]
        have hsz := HSz.out l[k] (List.getElem_mem hkn)
        have hE2 := HE.out
        rw [List.drop_eq_getElem_cons hkn, marksFault_cons] at hE2
        generalize l[k] = x at hsz hE2 hpre c0 c1 c2
        obtain ⟨p, ⟨d, n⟩⟩ := x
        simp only at hsz c0 c1 c2
        have HP1 := Lib.hid hpre
        have HE2 := Lib.hid hE2
        have hszb : w.heap.size ≤ wr.heap.size := HB.out.size
        clear hpre hE2
        have HPrev : Hid (∀ j, k = j + 1 → ∃ (hj : j < l.length), mprevAt l k = some l[j]) := fun j hj => ⟨by omega, by unfold mprevAt; rw [if_neg (by omega)]; simp [hj, show j < l.length by omega]⟩
        by_cases hp : markErr ⟨p, ⟨d, n⟩⟩ = 0
        · have HP := Lib.hid hp
          have g0 : (markErr ⟨p, ⟨d, n⟩⟩ != 0) = false := by simp [hp]
          clear hp
          go_wp2_with fail
          refine (HM.out _ ⟨p, ⟨d, n⟩⟩ hsz).mono ?_
          rintro e w1 ⟨rfl, hb1⟩
          have HB1 : Hid (Below w.heap.size w w1) := HB.out.trans (hb1.mono HB.out.size)
          have HR1 := HR.out.below HB1.out
          obtain ⟨ad2, had2, hb2, d0, d1, d2⟩ := HR1.mark hkn
          clear hb1 c0 c1 c2
          rcases Nat.eq_zero_or_pos k with hk0 | hk0
          · subst hk0
            have HF : Hid (marksErr l = marksFault (some ⟨p, ⟨d, n⟩⟩) (l.drop 1)) := by
              show _ = _
              rw [HE2.out, if_neg (fun h => h HP.out), if_neg (by simp [mClash, mprevAt])]
            clear HE2 HPrev had2 d0 d1 d2
            go_wp2_with fail
            go_quiet (fail)
            go_wp2_with fail
            go_roundw
            case rel => exact ⟨1, by omega, rfl, below_drewN HB1.out _, by rw [HP1.out]; exact HF⟩
            case measure => simp [intOf]; omega
          · obtain ⟨j, rfl⟩ : ∃ j, k = j + 1 := ⟨k - 1, by omega⟩
            obtain ⟨hj, hpv⟩ := HPrev.out j rfl
            obtain rfl : ad = ad2 := by injection had2
            obtain ⟨ad3, had3, hb3, e0, e1, e2⟩ := HR1.mark hj
            obtain rfl : ad = ad3 := by injection had3
            have HR1 := Lib.hid HR1
            have q1 : IntKind.i64.wrap ((j : Int) + 1 - 1) = (j : Int) := by rw [IntWalk.i64_in _ (by omega)]; omega
            have j0 : (0 : Int) ≤ (j : Int) := by omega
            have j1 : (j : Int) < (l.length : Int) := by omega
            have j3 : (0 : Int) ≤ (j : Int) + 1 := by omega
            have j4 : ((j : Int) + 1).toNat = j + 1 := by omega
            have j5 : (j : Int) + 1 < (l.length : Int) := by omega
            have j6 : (0 : Int) ≤ ((j + 1 : Nat) : Int) := by omega
            have j7 : j + 1 < l.length := by omega
            have q2 : IntKind.i64.wrap (((j + 1 : Nat) : Int) - 1) = (j : Int) := by rw [IntWalk.i64_in _ (by omega)]; omega
            have q3 : IntKind.i64.wrap (j : Int) = (j : Int) := by rw [IntWalk.i64_in _ (by omega)]
            have k0 : (((j + 1 : Nat) : Int) == 0) = false := by rw [beq_eq_false_iff_ne]; omega
            have k1 : ((j : Int) + 1 == 0) = false := by rw [beq_eq_false_iff_ne]; omega
            have hHPV := Lib.hid hpv
            have hE1 : Hid (l[j + 1] = ⟨p, ⟨d, n⟩⟩) := by
              show _ = _
              have := HP1.out
              unfold mprevAt at this
              rw [if_neg (by omega)] at this
              have e : l[j + 1]? = some l[j + 1] := List.getElem?_eq_getElem hkn
              rw [show j + 1 + 1 - 1 = j + 1 by omega, e] at this
              exact Option.some.inj this
            rw [hE1.out] at d0 d1 d2
            simp only at d0 d1 d2
            clear hpv had2 had3 HPrev
            generalize hlj : l[j] = y at *
            obtain ⟨py, ⟨dy, ny⟩⟩ := y
            simp only at e0 e1 e2
            have HF : Hid (marksErr l = if (0 : Int) ≤ ordM ⟨py, ⟨dy, ny⟩⟩ ⟨p, ⟨d, n⟩⟩ then 7 else marksFault (some ⟨p, ⟨d, n⟩⟩) (l.drop (j + 1 + 1))) := by
              show _ = _
              rw [HE2.out, if_neg (fun h => h HP.out), hHPV.out]
              simp [mClash]
            have HO1 := Lib.hid (fun w => HO.out w ⟨py, ⟨dy, ny⟩⟩ ⟨p, ⟨d, n⟩⟩)
            have HLT : Hid (ltMb ⟨py, ⟨dy, ny⟩⟩ ⟨p, ⟨d, n⟩⟩ = decide (ordM ⟨py, ⟨dy, ny⟩⟩ ⟨p, ⟨d, n⟩⟩ < 0)) := rfl
            have hbk : ∀ k, Hid ((ad.add (k * 3)).block < w1.heap.size) := fun k => by have := HB1.out.size; show (ad.add (k * 3)).block < w1.heap.size; rw [block_of_add]; omega
            clear HE2 hlj
            generalize ltMb ⟨py, ⟨dy, ny⟩⟩ ⟨p, ⟨d, n⟩⟩ = bv at HLT HO1
            go_wp2_with fail
            go_region_held3 (fun w' => w'.cell? (ad.add (j * 3)) = some (.string py) ∧ w'.cell? ⟨(ad.add (j * 3)).block, (ad.add (j * 3)).off + 1, none⟩ = some (.int .i64 dy) ∧ w'.cell? ⟨(ad.add (j * 3)).block, (ad.add (j * 3)).off + 2, none⟩ = some (.int .i64 ny) ∧ w'.cell? (ad.add ((j + 1) * 3)) = some (.string p) ∧ w'.cell? ⟨(ad.add ((j + 1) * 3)).block, (ad.add ((j + 1) * 3)).off + 1, none⟩ = some (.int .i64 d) ∧ w'.cell? ⟨(ad.add ((j + 1) * 3)).block, (ad.add ((j + 1) * 3)).off + 2, none⟩ = some (.int .i64 n))
                (first
                  | go_keep
                  | (refine ⟨?_, ?_, ?_, ?_, ?_, ?_⟩ <;> assumption))
                (first
                  | (go_at_call 105; refine (HO1.out _).mono ?_; rintro e3 w2 ⟨rfl, hb3'⟩; have hb3 : Below w1.heap.size w1 w2 := below_of_drew hb3'; have k0 := (hb3.cell (hbk j).out).trans e0; have k1 := (hb3.cell (p := ⟨(ad.add (j * 3)).block, (ad.add (j * 3)).off + 1, none⟩) (hbk j).out).trans e1; have k2 := (hb3.cell (p := ⟨(ad.add (j * 3)).block, (ad.add (j * 3)).off + 2, none⟩) (hbk j).out).trans e2; have k3 := (hb3.cell (hbk (j + 1)).out).trans d0; have k4 := (hb3.cell (p := ⟨(ad.add ((j + 1) * 3)).block, (ad.add ((j + 1) * 3)).off + 1, none⟩) (hbk (j + 1)).out).trans d1; have k5 := (hb3.cell (p := ⟨(ad.add ((j + 1) * 3)).block, (ad.add ((j + 1) * 3)).off + 2, none⟩) (hbk (j + 1)).out).trans d2; have HB3 := Lib.hid (HB1.out.trans (hb3.mono HB1.out.size)); clear hb3 hb3'))
            cases hbv : bv with
            | false =>
              have HFF : Hid (marksErr l = 7) := by
                show _ = _
                have h := HLT.out
                rw [hbv] at h
                have := of_decide_eq_false h.symm
                rw [HF.out, if_pos (by omega)]
              subst hbv
              go_wp2_with fail
              go_ret
              exact ⟨by rw [HFF.out]; rfl, HB3.out⟩
            | true =>
              have HFF : Hid (marksErr l = marksFault (some ⟨p, ⟨d, n⟩⟩) (l.drop (j + 1 + 1))) := by
                show _ = _
                have h := HLT.out
                rw [hbv] at h
                have := of_decide_eq_true h.symm
                rw [HF.out, if_neg (by omega)]
              subst hbv
              go_wp2_with fail
              go_roundw
              case rel => exact ⟨j + 1 + 1, by omega, by go_num, HB3, by rw [HP1.out]; exact HFF⟩
              case measure => simp [intOf]; omega
        · have HF : Hid (marksErr l = markErr ⟨p, ⟨d, n⟩⟩) := by
            show _ = _
            rw [HE2.out, if_pos hp]
          have g0 : (markErr ⟨p, ⟨d, n⟩⟩ != 0) = true := by simp [hp]
          clear hp
          go_wp2_with fail
          refine (HM.out _ ⟨p, ⟨d, n⟩⟩ hsz).mono ?_
          rintro e w1 ⟨rfl, hb1⟩
          go_wp2_with fail
          go_ret
          exact ⟨by rw [HF.out]; rfl, HB.out.trans (hb1.mono HB.out.size)⟩
      · have hd : decide ((k : Int) < (l.length : Int)) = false := by simp; omega
        have HF : Hid (marksErr l = 0) := by
          have := HE.out
          rw [List.drop_of_length_le (by omega), marksFault] at this
          exact this
        go_wp2_with fail
        go_ret
        exact ⟨by rw [HF.out]; rfl, HB.out⟩
def withErr (l : List LMark) (m : LMark) : Int := if hasM l m = true then 0 else if 40 ≤ l.length then 4 else 0
/-- Marks and a number are given back: a row of the call's own, or the one that came. -/
def RMarksPost (w : World) (A : Option Addr) (c0 : Nat) (l0 l : List LMark) (k : Int) (e : Ending) (w' : World) : Prop :=
  ∃ V c, e = .returned (.tuple #[.slice V l.length c, .int .i64 k]) ∧ (Own w' w.heap.size 118 3 V l.length c (mcells l) ∨ (V = A ∧ c = c0 ∧ l = l0)) ∧ Below w.heap.size w w'
def WithLoop (w : World) (l : List LMark) (m : LMark) (i : Value) (wr : World) : Prop :=
  ∃ k : Nat, k ≤ l.length ∧ i = .int .i64 k ∧ Hid (Below w.heap.size w wr) ∧ Hid (∀ j (hj : j < l.length), j < k → ltM l[j] m)
def AtAhead (w : World) (l : List LMark) (m : LMark) (i : Value) (wr : World) : Prop :=
  ∃ k : Nat, k ≤ l.length ∧ i = .int .i64 k ∧ Hid (aheadM l m = k) ∧ Hid (Below w.heap.size w wr)
set_option maxRecDepth 100000 in
set_option maxHeartbeats 8000000 in
theorem rwith_any (w : World) (A : Option Addr) (c : Nat) (l : List LMark) (m : LMark) (h : Reads w w.heap.size 3 A l.length (mcells l)) (ok : MarksOk l) (hc : l.length ≤ c) (hcm : c ≤ 9223372036854775807) :
    Calls Tryd.prog 68 #[.slice A l.length c, .agg #[.string m.place, .int .i64 m.dot.who, .int .i64 m.dot.n]] w (RMarksPost w A c l (giveM (withErr l m) (cutRes l m)) (withErr l m)) := by
  obtain ⟨W0, hW0⟩ : ∃ W0, W0 = w.alloc (.cells #[.string m.place, .int .i64 m.dot.who, .int .i64 m.dot.n] 118) := ⟨_, rfl⟩
  have hfew := ok.few
  have HSZ : Hid (w.heap.size < W0.heap.size) := by show _ < _; rw [hW0]; simp
  have HBW : Hid (Below w.heap.size w W0) := by show Below _ _ _; rw [hW0]; exact (Below.refl _ _).alloc (Nat.le_refl _) _
  have HR : Hid (∀ W, Below W0.heap.size W0 W → Reads W W0.heap.size 3 A l.length (mcells l)) := fun W hb => ((h.below HBW.out).more HBW.out.size).below hb
  have HBK : Hid (∀ W, Below W0.heap.size W0 W → Blk W w.heap.size 118 #[.string m.place, .int .i64 m.dot.who, .int .i64 m.dot.n]) := fun W hb => by
    have h0 : Blk W0 w.heap.size 118 #[.string m.place, .int .i64 m.dot.who, .int .i64 m.dot.n] := by rw [hW0]; exact Blk.new w _ _
    exact h0.below hb HSZ.out
  have HO := Lib.hid (fun w (x : LMark) => rbefore_any w x m)
  have HRW : Hid (∀ W, Below w.heap.size w W → Reads W w.heap.size 3 (tailA A c (aheadM l m) 3) (l.length - aheadM l m) ((mcells l).drop (aheadM l m * 3))) := fun W hb => (h.tail (aheadM_le _ _) hc).below hb
  have HRi := Lib.hid ok.rising
  have HAH := Lib.hid (fun i hi h1 h2 => aheadM_of (l := l) (m := m) (i := i) hi h1 h2)
  obtain ⟨q, ⟨d, n⟩⟩ := m
  simp only at hW0 HBK
  clear h ok
  go_enter Tryd.func68, Tryd.ntmps68
  go_upto_block 0 with (fail)
  rw [← hW0]
  clear hW0
  go_cut [6] (fun i wx => AtAhead W0 l ⟨q, ⟨d, n⟩⟩ i wx)
  case first =>
    go_wp2_with fail
    go_loopw [6] (fun i wr => WithLoop W0 l ⟨q, ⟨d, n⟩⟩ i wr) (fun i _ => l.length - (intOf i).toNat)
    case atStart => exact ⟨0, by omega, rfl, Below.refl _ _, fun j hj h => by omega⟩
    case round =>
      obtain ⟨k, hk, rfl, HB, HN⟩ := hrel
      have hsz0 : w.heap.size < wr.heap.size := by have := HB.out.size; have := HSZ.out; omega
      have b0 : wr.cell? ⟨w.heap.size, 0, none⟩ = some (.string q) := by rw [(HBK.out _ HB.out).cell]; rfl
      have b1 : wr.cell? ⟨w.heap.size, 1, none⟩ = some (.int .i64 d) := by rw [(HBK.out _ HB.out).cell]; rfl
      have b2 : wr.cell? ⟨w.heap.size, 2, none⟩ = some (.int .i64 n) := by rw [(HBK.out _ HB.out).cell]; rfl
      have hk0 : (0 : Int) ≤ (k : Int) := by omega
      by_cases hkn : k < l.length
      · obtain ⟨ad, rfl, hb, c0, c1, c2⟩ := (HR.out _ HB.out).mark hkn
        have hlt : (k : Int) < (l.length : Int) := by omega
        have g0 : decide ((k : Int) < (l.length : Int)) = true := decide_eq_true hlt
        have HX : Hid (∀ x, x = l[k] → ltM x ⟨q, ⟨d, n⟩⟩ → ∀ j (hj : j < l.length), j < k + 1 → ltM l[j] ⟨q, ⟨d, n⟩⟩) := fun x hx hl j hj hjk => by
          rcases Nat.eq_or_lt_of_le (Nat.le_of_lt_succ hjk) with h | h
          · subst h; rw [← hx]; exact hl
          · exact HN.out j hj h
        have HA : Hid (∀ x, x = l[k] → ¬ ltM x ⟨q, ⟨d, n⟩⟩ → aheadM l ⟨q, ⟨d, n⟩⟩ = k) := fun x hx hl => HAH.out k hk HN.out (fun j hj hkj hlt => by
          rcases Nat.eq_or_lt_of_le hkj with h | h
          · subst h; rw [hx] at hl; exact hl hlt
          · rw [hx] at hl; exact hl (ltM_trans (mrising_at HRi.out k j hkn hj h) hlt))
        generalize hlk : l[k] = x at *
        have HX2 := Lib.hid (HX.out x rfl)
        have HA2 := Lib.hid (HA.out x rfl)
        clear HX HA hlk
        obtain ⟨x0, ⟨x1, x2⟩⟩ := x
        simp only at c0 c1 c2
        have HO1 := Lib.hid (fun w => HO.out w ⟨x0, ⟨x1, x2⟩⟩)
        have hbk : Hid ((ad.add (k * 3)).block < wr.heap.size) := by show (ad.add (k * 3)).block < wr.heap.size; rw [block_of_add]; have := HB.out.size; omega
        have HLT : Hid (ltMb ⟨x0, ⟨x1, x2⟩⟩ ⟨q, ⟨d, n⟩⟩ = true ↔ ltM ⟨x0, ⟨x1, x2⟩⟩ ⟨q, ⟨d, n⟩⟩) := ltMb_iff
        go_wp2_with fail
        go_region_held3 (fun w' => w'.cell? (ad.add (k * 3)) = some (.string x0) ∧ w'.cell? ⟨(ad.add (k * 3)).block, (ad.add (k * 3)).off + 1, none⟩ = some (.int .i64 x1) ∧ w'.cell? ⟨(ad.add (k * 3)).block, (ad.add (k * 3)).off + 2, none⟩ = some (.int .i64 x2) ∧ w'.cell? ⟨w.heap.size, 0, none⟩ = some (.string q) ∧ w'.cell? ⟨w.heap.size, 1, none⟩ = some (.int .i64 d) ∧ w'.cell? ⟨w.heap.size, 2, none⟩ = some (.int .i64 n))
            (first
              | go_keep
              | (refine ⟨?_, ?_, ?_, ?_, ?_, ?_⟩ <;> assumption))
            (first
              | (go_at_call 105; refine (HO1.out _).mono ?_; rintro e3 w2 ⟨rfl, hb3'⟩; have hb3 : Below wr.heap.size wr w2 := below_of_drew hb3'; have k0 := (hb3.cell hbk.out).trans c0; have k1 := (hb3.cell (p := ⟨(ad.add (k * 3)).block, (ad.add (k * 3)).off + 1, none⟩) hbk.out).trans c1; have k2 := (hb3.cell (p := ⟨(ad.add (k * 3)).block, (ad.add (k * 3)).off + 2, none⟩) hbk.out).trans c2; have k3 := (hb3.cell (p := ⟨w.heap.size, 0, none⟩) hsz0).trans b0; have k4 := (hb3.cell (p := ⟨w.heap.size, 1, none⟩) hsz0).trans b1; have k5 := (hb3.cell (p := ⟨w.heap.size, 2, none⟩) hsz0).trans b2; have HB3 := Lib.hid (HB.out.trans (hb3.mono HB.out.size)); clear hb3 hb3'))
        cases hbv : ltMb ⟨x0, ⟨x1, x2⟩⟩ ⟨q, ⟨d, n⟩⟩ with
        | true =>
          have HNN := Lib.hid (HX2.out (HLT.out.1 hbv))
          clear hbv
          go_wp2_with fail
          go_roundw
          case rel => exact ⟨k + 1, by omega, by go_num, HB3, HNN⟩
          case measure => simp [intOf]; omega
        | false =>
          have HAH2 := Lib.hid (HA2.out (fun h => by rw [HLT.out.2 h] at hbv; cases hbv))
          clear hbv c0 c1 c2 b0 b1 b2
          go_wp2_with fail
          go_meet
          case rel => exact ⟨k, hk, rfl, HAH2, HB3⟩
      · have g0 : decide ((k : Int) < (l.length : Int)) = false := by simp; omega
        have HAH2 : Hid (aheadM l ⟨q, ⟨d, n⟩⟩ = k) := HAH.out k hk HN.out (fun j hj hkj _ => by omega)
        go_wp2_with fail
        go_quiet (fail)
        go_wp2_with fail
        go_meet
        case rel => exact ⟨k, hk, rfl, HAH2, below_drewN HB.out _⟩
  case rest =>
    obtain ⟨k, hk, rfl, HAH2, HB⟩ := hcut
    have hk0 : (0 : Int) ≤ (k : Int) := by omega
    have hk1 : (k : Int) ≤ (l.length : Int) := by omega
    go_upto_region 4 with (fail)
    go_cut [33] (fun v wx => v = .bool (hasM l ⟨q, ⟨d, n⟩⟩) ∧ Hid (Below W0.heap.size W0 wx))
    case first =>
      have b0 : wc.cell? ⟨w.heap.size, 0, none⟩ = some (.string q) := by rw [(HBK.out _ HB.out).cell]; rfl
      have b1 : wc.cell? ⟨w.heap.size, 1, none⟩ = some (.int .i64 d) := by rw [(HBK.out _ HB.out).cell]; rfl
      have b2 : wc.cell? ⟨w.heap.size, 2, none⟩ = some (.int .i64 n) := by rw [(HBK.out _ HB.out).cell]; rfl
      by_cases hkn : k < l.length
      · obtain ⟨ad, rfl, hb, c0, c1, c2⟩ := (HR.out _ HB.out).mark hkn
        have hlt : (k : Int) < (l.length : Int) := by omega
        have g0 : decide ((k : Int) < (l.length : Int)) = true := decide_eq_true hlt
        have HH : Hid (hasM l ⟨q, ⟨d, n⟩⟩ = decide (l[k] = ⟨q, ⟨d, n⟩⟩)) := by
          show _ = _
          unfold hasM
          rw [HAH2.out, List.getElem?_eq_getElem hkn]
          simp only [ordM_zero]
        generalize l[k] = x at *
        obtain ⟨x0, ⟨x1, x2⟩⟩ := x
        simp only at c0 c1 c2
        have hq : ∀ W, (Op.equalIn 10000 118 (.agg #[.string x0, .int .i64 x1, .int .i64 x2]) (.agg #[.string q, .int .i64 d, .int .i64 n])).run Tryd.prog W = .ok (decide ((⟨x0, ⟨x1, x2⟩⟩ : LMark) = ⟨q, ⟨d, n⟩⟩)) W := fun W => by rw [SameMarks.eq_one, SameMarks.same_one]
        generalize decide ((⟨x0, ⟨x1, x2⟩⟩ : LMark) = ⟨q, ⟨d, n⟩⟩) = bv at *
        go_quiet (fail)
        go_wp2_with fail
        go_meet
        case rel => exact ⟨by rw [HH.out], below_drewN HB.out _⟩
      · have g0 : decide ((k : Int) < (l.length : Int)) = false := by simp; omega
        have HH : Hid (hasM l ⟨q, ⟨d, n⟩⟩ = false) := by
          show _ = _
          unfold hasM
          rw [HAH2.out, List.getElem?_eq_none (by omega)]
        go_quiet (fail)
        go_wp2_with fail
        go_meet
        case rel => exact ⟨by rw [HH.out], below_drewN HB.out _⟩
    case rest =>
      obtain ⟨rfl, HB2⟩ := hcut
      cases hh : hasM l ⟨q, ⟨d, n⟩⟩ with
      | true =>
        have HFE : Hid (withErr l ⟨q, ⟨d, n⟩⟩ = 0 ∧ cutRes l ⟨q, ⟨d, n⟩⟩ = l) := ⟨if_pos hh, if_pos hh⟩
        clear hh
        go_wp2_with fail
        go_ret2
        rw [HFE.out.1, HFE.out.2, giveM, if_pos rfl]
        exact ⟨A, c, rfl, .inr ⟨rfl, rfl, rfl⟩, HBW.out.trans (HB2.out.mono HBW.out.size)⟩
      | false =>
        have hnh : ¬ hasM l ⟨q, ⟨d, n⟩⟩ = true := by rw [hh]; decide
        by_cases hf : 40 ≤ l.length
        · have HFE : Hid (withErr l ⟨q, ⟨d, n⟩⟩ = 4) := by show _ = _; unfold withErr; rw [if_neg hnh, if_pos hf]
          clear hh hnh
          go_wp2_with fail
          go_ret2
          rw [HFE.out, giveM_bad (by decide)]
          exact ⟨none, 0, rfl, .inl (Own.nil _ _ _ _), HBW.out.trans (HB2.out.mono HBW.out.size)⟩
        have HE : Hid (withErr l ⟨q, ⟨d, n⟩⟩ = 0 ∧ cutRes l ⟨q, ⟨d, n⟩⟩ = cutPut l k ⟨q, ⟨d, n⟩⟩) := ⟨by unfold withErr; rw [if_neg hnh, if_neg hf], by unfold cutRes; rw [if_neg hnh, HAH2.out]⟩
        clear hh hnh
        have HRc := Lib.hid (HR.out _ HB2.out)
        have hbkc := HBK.out _ HB2.out
        have HBKc := Lib.hid hbkc
        have b0 : wc.cell? ⟨w.heap.size, 0, none⟩ = some (.string q) := by rw [hbkc.cell]; rfl
        have b1 : wc.cell? ⟨w.heap.size, 1, none⟩ = some (.int .i64 d) := by rw [hbkc.cell]; rfl
        have b2 : wc.cell? ⟨w.heap.size, 2, none⟩ = some (.int .i64 n) := by rw [hbkc.cell]; rfl
        have hz0 : w.heap.size + 1 ≤ wc.heap.size := hbkc.lt
        have hz1 : W0.heap.size ≤ wc.heap.size := HB2.out.size
        have hsl1 := fun W => run_nilslice InsMark.elem A l.length c k (by omega) W
        have hsl2 := fun W => run_tailAt InsMark.elem A l.length c k (by omega) W
        have hF1 : Fits (0 + k) 32 := Fits.of_small (by omega) (by decide)
        have hF2 : Fits (k + 1) 32 := Fits.of_small (by omega) (by decide)
        have hF3 : Fits (k + 1 + (l.length - k)) 32 := Fits.of_small (by omega) (by decide)
        have HT : Hid (Reads wc W0.heap.size 3 A k ((mcells l).take (k * 3))) := HRc.out.head (by omega)
        have HD : Hid (Reads wc W0.heap.size 3 (tailA A c k 3) (l.length - k) ((mcells l).drop (k * 3))) := HRc.out.tail (by omega) hc
        have h1 : OneCells ((mcells l).take (k * 3)) := fun u hu => oneCells_m l u (List.mem_of_mem_take hu)
        have h2 : OneCells ((mcells l).drop (k * 3)) := fun u hu => oneCells_m l u (List.mem_of_mem_drop hu)
        have h3 : OneCells (LMark.cells ⟨q, ⟨d, n⟩⟩) := by intro u hu; simp [LMark.cells] at hu; rcases hu with rfl | rfl | rfl <;> rfl
        have HRX := Lib.hid (fun W : World => Reads.row W 118 #[.string q, .int .i64 d, .int .i64 n])
        clear hbkc hz1
        go_upto_region 10 with (at_builtin; refine wpList_app _ (.tmp 38) (.tmp 41) rfl rfl InsMark.elem rfl rfl (Own.nil _ (w.heap.size + 1) _ 3) HT.out h1 hF1 hz0 ?_; intro V1 c1 w1 hO1 hL1 hG1)
        rw [Nat.zero_add, List.nil_append] at hO1
        have HO1 := Lib.hid hO1
        have HB3 : Hid (Below W0.heap.size W0 w1) := HB2.out.trans (hL1.below (B := W0.heap.size) HB2.out.size (by simp [ob]))
        have hbk1 := HBK.out _ HB3.out
        have HBK1 := Lib.hid hbk1
        have d0 : w1.cell? ⟨w.heap.size, 0, none⟩ = some (.string q) := by rw [hbk1.cell]; rfl
        have d1 : w1.cell? ⟨w.heap.size, 1, none⟩ = some (.int .i64 d) := by rw [hbk1.cell]; rfl
        have d2 : w1.cell? ⟨w.heap.size, 2, none⟩ = some (.int .i64 n) := by rw [hbk1.cell]; rfl
        have hz3 : w.heap.size + 1 ≤ w1.heap.size := hbk1.lt
        have HD1 := Lib.hid (HD.out.keep (w' := w1) (fun p hp => hL1.cell (by have := HB2.out.size; omega) (by simp [ob])))
        clear hO1 hL1 hG1 hbk1 b0 b1 b2
        go_upto_region 11 with (at_builtin; refine wpList_app _ (.tmp 43) (.tmp 45) rfl rfl InsMark.elem rfl rfl (HO1.out.alloc _) (HRX.out w1) h3 hF2 (by simp <;> omega) ?_; intro V2 c2 w2 hO2 hL2 hG2)
        have HO2 := Lib.hid hO2
        have HB4 : Hid (Below w.heap.size w w2) := ((HBW.out.trans (HB3.out.mono HBW.out.size)).alloc (by have := HBW.out.size; have := HB3.out.size; omega) _).trans (hL2.below (by simp <;> omega) (fun g hg => by have := (HO1.out.lt g hg).1; omega))
        have hz4 : w.heap.size + 1 ≤ w2.heap.size := by have := hL2.size; simp at this; omega
        have HD2 : Hid (Reads w2 w.heap.size 3 (tailA A c k 3) (l.length - k) ((mcells l).drop (k * 3))) := by have := HRW.out _ HB4.out; rw [HAH2.out] at this; exact this
        clear hO2 hL2 hG2 d0 d1 d2
        go_wp2_with (at_builtin; refine wpList_app _ (.tmp 47) (.tmp 50) rfl rfl InsMark.elem rfl rfl HO2.out HD2.out h2 hF3 hz4 ?_; intro V3 c3 w3 hO3 hL3 hG3)
        go_ret2
        rw [HE.out.1, HE.out.2, giveM, if_pos rfl]
        have hlen : (cutPut l k ⟨q, ⟨d, n⟩⟩).length = k + 1 + (l.length - k) := by rw [cutPut_len _ _ _ hk]; omega
        have hcl : mcells (cutPut l k ⟨q, ⟨d, n⟩⟩) = ((mcells l).take (k * 3) ++ LMark.cells ⟨q, ⟨d, n⟩⟩) ++ (mcells l).drop (k * 3) := (mcells_put l k ⟨q, ⟨d, n⟩⟩).symm
        refine ⟨V3, c3, by rw [hlen]; simp, .inl ?_, HB4.out.trans (hL3.below HB4.out.size (fun g hg => by have := (HO2.out.lt g hg).1; omega))⟩
        rw [hlen, hcl]
        have := hO3.mono (show w.heap.size ≤ w.heap.size + 1 by omega)
        exact this
end Go.Proofs.YtpofdjikogoobaaDoor

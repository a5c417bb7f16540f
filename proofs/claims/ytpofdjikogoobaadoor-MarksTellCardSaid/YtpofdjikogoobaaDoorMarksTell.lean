/- What is wrong with any marks, cut once more, joined; where they are, and whose: the law MarksTell answers true. Conditions: the library's one variable holds what its text lays (the card ties it). -/
import Derived.Test.YtpofdjikogoobaaDoorRefWithout
import Derived.Test.YtpofdjikogoobaaDoorMarkPlaces
import Derived.Test.YtpofdjikogoobaaDoorMarkSeen
import Derived.Test.YtpofdjikogoobaaDoorMarkDel
import Derived.Test.YtpofdjikogoobaaDoorSameDots
import Derived.Test.YtpofdjikogoobaaDoorSame
import Derived.Test.YtpofdjikogoobaaDoorOpenDir
import Derived.Test.YtpofdjikogoobaaDoorCard
namespace Go.Proofs.YtpofdjikogoobaaDoor
open Go.RowKit Go.WideShapes Go.ChangeShapes Go.ChangeAt
set_option linter.unusedVariables false
namespace lawMarksTell
theorem beq_self (k : Int) : (k == k) = true := by simp
theorem places_last {l : List LMark} {k : Nat} (h : k < l.length) : (places (l.take (k + 1))).getLast? = some l[k].place := by
  rw [places_take h]
  unfold plStep
  split
  · assumption
  · simp
theorem places_step {l : List LMark} {k : Nat} (h : k < l.length) : places (l.take (k + 1)) = places (l.take k) ++ (if k = 0 ∨ (l.getD (k - 1) default).place ≠ l[k].place then [l[k].place] else []) := by
  rw [places_take h]
  unfold plStep
  cases k with
  | zero => simp [places]
  | succ j =>
    rw [places_last (show j < l.length by omega)]
    have e : l.getD (j + 1 - 1) default = l[j] := by simp [List.getD, show j < l.length by omega]
    rw [e]
    by_cases hp : l[j].place = l[j + 1].place <;> simp [hp]
theorem same_marks (W : World) (V G : Option Addr) (ca cg : Nat) (l : List LMark) (h1 : Reads W W.heap.size 3 V l.length (mcells l)) (h2 : Reads W W.heap.size 3 G l.length (mcells l)) (hl : l.length ≤ 1000000) :
    Calls Tryd.prog 70 #[.slice V l.length ca, .slice G l.length cg] W (SamePost W true) := by
  have h := SameMarks.any W V G ca cg l l h1 h2 hl hl
  rwa [decide_eq_true rfl] at h
theorem same_dots (W : World) (V G : Option Addr) (ca cg : Nat) (l : List LDot) (h1 : Reads W W.heap.size 2 V l.length (dcells l)) (h2 : Reads W W.heap.size 2 G l.length (dcells l)) (hl : l.length ≤ 1000000) :
    Calls Tryd.prog 73 #[.slice V l.length ca, .slice G l.length cg] W (SamePost W true) := by
  have h := SameDots.any W V G ca cg l l h1 h2 hl hl
  rwa [decide_eq_true rfl] at h
theorem same_texts (W : World) (V G : Option Addr) (ca cg : Nat) (l : List ByteArray) (h1 : Reads W W.heap.size 1 V l.length (txts l)) (h2 : Reads W W.heap.size 1 G l.length (txts l)) (hl : l.length ≤ 1000000) :
    Calls Tryd.prog 22 #[.slice V l.length ca, .slice G l.length cg] W (SamePost W true) := by
  have h := texts_any W V G ca cg l l h1 h2 hl hl
  rwa [decide_eq_true rfl] at h
def f1 (l : List LMark) (m : LMark) : Int := if marksErr l = 0 then markErr m else marksErr l
theorem cut_f1 (l : List LMark) (m : LMark) : cutErr l m = if f1 l m = 0 then withErr l m else f1 l m := by
  unfold cutErr f1 withErr
  by_cases h : marksErr l = 0
  · by_cases h2 : markErr m = 0 <;> simp [h, h2]
  · simp [h]
def e3 (l : List LMark) (p : ByteArray) (seen : List LDot) : Int := if seenErr l p = 0 ∧ 40 < seen.length then 4 else seenErr l p
theorem join_e3 (l : List LMark) (p : ByteArray) (seen : List LDot) : joinErr l p seen = if e3 l p seen = 0 then riseErr seen else e3 l p seen := by
  unfold joinErr e3 seenErr
  by_cases h : marksErr l = 0
  · by_cases h2 : placeErr p = 0
    · by_cases h3 : 40 < seen.length <;> simp [h, h2, h3]
    · simp [h, h2]
  · simp [h]
def PlcLoop (w : World) (l : List LMark) (v i : Value) (wr : World) : Prop :=
  ∃ (k cv : Nat) (V : Option Addr), k ≤ l.length ∧ i = .int .i64 k ∧ v = .slice V (places (l.take k)).length cv ∧ Hid (Own wr w.heap.size 9 1 V (places (l.take k)).length cv (txts (places (l.take k)))) ∧ Hid (Below w.heap.size w wr)
def TxtsAt (w : World) (l : List ByteArray) (v : Value) (wr : World) : Prop := ∃ V c, v = .slice V l.length c ∧ Hid (Reads wr wr.heap.size 1 V l.length (txts l)) ∧ Hid (Below w.heap.size w wr)
def DotsAt (w : World) (l : List LDot) (v : Value) (wr : World) : Prop := ∃ V c, v = .slice V l.length c ∧ Hid (Reads wr wr.heap.size 2 V l.length (dcells l)) ∧ Hid (Below w.heap.size w wr)
def MarksAt (w : World) (l : List LMark) (v : Value) (wr : World) : Prop := ∃ V c, v = .slice V l.length c ∧ Hid (Reads wr wr.heap.size 3 V l.length (mcells l)) ∧ Hid (Below w.heap.size w wr)
set_option maxRecDepth 100000 in
set_option maxHeartbeats 16000000 in
theorem walk (w : World) (A : Option Addr) (c : Nat) (l : List LMark) (m : LMark) (p : ByteArray) (A2 : Option Addr) (c2 : Nat) (seen : List LDot) (hg : Glob w) (h : Reads w w.heap.size 3 A l.length (mcells l)) (hs : MSized l) (hc : l.length ≤ c) (hcm : c ≤ 9223372036854775807)
    (hm : m.place.size ≤ 9223372036854775807) (hp : p.size ≤ 9223372036854775807) (h2 : Reads w w.heap.size 2 A2 seen.length (dcells seen)) (hn2 : seen.length ≤ 9223372036854775807) :
    Calls Tryd.prog 10 #[.slice A l.length c, .agg #[.string m.place, .int .i64 m.dot.who, .int .i64 m.dot.n], .string p, .slice A2 seen.length c2] w (CheckPost w (.bool true)) := by
  obtain ⟨W0, hW0⟩ : ∃ W0, W0 = w.alloc (.cells #[.string m.place, .int .i64 m.dot.who, .int .i64 m.dot.n] 118) := ⟨_, rfl⟩
  have HSZ : Hid (w.heap.size < W0.heap.size) := by show _ < _; rw [hW0]; simp
  have HBW : Hid (Below w.heap.size w W0) := by show Below _ _ _; rw [hW0]; exact (Below.refl _ _).alloc (Nat.le_refl _) _
  have HG0 : Hid (Glob W0) := hg.below HBW.out (Nat.le_refl _)
  have HR : Hid (∀ W, Below W0.heap.size W0 W → Reads W W.heap.size 3 A l.length (mcells l)) := fun W hb => ((((h.below HBW.out).more HBW.out.size).below hb).more hb.size)
  have HS : Hid (∀ W, Below W0.heap.size W0 W → Reads W W.heap.size 2 A2 seen.length (dcells seen)) := fun W hb => ((((h2.below HBW.out).more HBW.out.size).below hb).more hb.size)
  have HBK : Hid (∀ W, Below W0.heap.size W0 W → Blk W w.heap.size 118 #[.string m.place, .int .i64 m.dot.who, .int .i64 m.dot.n]) := fun W hb => by
    have h0 : Blk W0 w.heap.size 118 #[.string m.place, .int .i64 m.dot.who, .int .i64 m.dot.n] := by rw [hW0]; exact Blk.new w _ _
    exact h0.below hb HSZ.out
  have KE := Lib.hid (fun W (hb : Below W0.heap.size W0 W) k e => error_any W k e (HG0.out.below hb (Nat.le_refl _)))
  have KRM := Lib.hid (fun W (hb : Below W0.heap.size W0 W) => rmarks_any W A c l (HR.out W hb) hs (by omega))
  have KMC := Lib.hid (fun W (hb : Below W0.heap.size W0 W) => marksCheck_any W A c l (HR.out W hb) hs (by omega))
  have KR1 := Lib.hid (fun W => rmark_any W m hm)
  have KRW := Lib.hid (fun W (hb : Below W0.heap.size W0 W) (he : marksErr l = 0) => rwith_any W A c l m (HR.out W hb) (marks_ok' he) hc hcm)
  have KCU := Lib.hid (fun W (hb : Below W0.heap.size W0 W) => cut_any W A c l m (HR.out W hb) hs (by omega) hm)
  have KSM := Lib.hid (fun W V G ca cg (l : List LMark) h1 h2 hl => same_marks W V G ca cg l h1 h2 hl)
  have KSD := Lib.hid (fun W V G ca cg (l : List LDot) h1 h2 hl => same_dots W V G ca cg l h1 h2 hl)
  have KST := Lib.hid (fun W V G ca cg (l : List ByteArray) h1 h2 hl => same_texts W V G ca cg l h1 h2 hl)
  have KPL := Lib.hid (fun W (hb : Below W0.heap.size W0 W) => places_any W A c l (HR.out W hb) hs (by omega))
  have KSE := Lib.hid (fun W (hb : Below W0.heap.size W0 W) => mseen_any W A c l p (HR.out W hb) hs (by omega) hp)
  have KRP := Lib.hid (fun W => rplace_any W p hp)
  have KRD := Lib.hid (fun W (hb : Below W0.heap.size W0 W) (hl : seen.length ≤ 40) => rdots_any W A2 c2 seen (HS.out W hb) (by omega))
  have KWO := Lib.hid (fun W (hb : Below W0.heap.size W0 W) (hl : seen.length ≤ 40) (hm : marksErr l = 0) => rwithout_any W A c l p A2 c2 seen (HR.out W hb) (by have := (marks_ok' hm).few; omega) (HS.out W hb) (by omega))
  have KJO := Lib.hid (fun W (hb : Below W0.heap.size W0 W) => join_any W A c l p A2 c2 seen (HR.out W hb) hs (by omega) hp (HS.out W hb) hn2)
  have HFEW : Hid (marksErr l = 0 → l.length ≤ 40) := fun h => (marks_ok' h).few
  obtain ⟨q, ⟨d, n⟩⟩ := m
  simp only at hW0 HBK KR1 KRW KCU
  clear h hs hg hc hm hp h2
  have HB0 : Hid (Below W0.heap.size W0 W0) := Below.refl _ _
  go_enter Tryd.func10, Tryd.ntmps10
  go_wp2_with fail
  rw [← hW0]
  clear hW0
  refine (KRM.out _ HB0.out).mono ?_
  rintro e w1 ⟨rfl, hb1⟩
  have HB1 := Lib.hid (hb1.mono (B' := W0.heap.size) (Nat.le_refl _))
  clear hb1
  go_wp2_with fail
  refine (KMC.out _ HB1.out).mono ?_
  rintro e w2 ⟨rfl, hb2⟩
  have HB2 := Lib.hid (HB1.out.trans (hb2.mono HB1.out.size))
  clear hb2 HB1
  go_wp2_with fail
  refine (KE.out _ HB2.out _ _).mono ?_
  rintro e w3 ⟨rfl, hb3⟩
  rw [beq_self]
  have HB3 := Lib.hid (HB2.out.trans (hb3.mono HB2.out.size))
  clear hb3 HB2
  go_upto_if 37 with (fail)
  go_cut [11] (fun a wx => a = .int .i64 (f1 l ⟨q, ⟨d, n⟩⟩) ∧ Hid (Below W0.heap.size W0 wx))
  case first => as_aux_lemma =>
    have b0 : w3.cell? ⟨w.heap.size, 0, none⟩ = some (.string q) := by rw [(HBK.out _ HB3.out).cell]; rfl
    have b1 : w3.cell? ⟨w.heap.size, 1, none⟩ = some (.int .i64 d) := by rw [(HBK.out _ HB3.out).cell]; rfl
    have b2 : w3.cell? ⟨w.heap.size, 2, none⟩ = some (.int .i64 n) := by rw [(HBK.out _ HB3.out).cell]; rfl
    by_cases he : marksErr l = 0
    · have g0 : (marksErr l == 0) = true := by rw [beq_iff_eq]; exact he
      have HF : Hid (f1 l ⟨q, ⟨d, n⟩⟩ = markErr ⟨q, ⟨d, n⟩⟩) := if_pos he
      clear he
      go_wp2_with fail
      refine (KR1.out _).mono ?_
      rintro e w4 ⟨rfl, hb4⟩
      have HB4 := Lib.hid (HB3.out.trans (hb4.mono HB3.out.size))
      clear hb4
      go_wp2_with fail
      go_meet
      case rel => exact ⟨by rw [HF.out], HB4⟩
    · have g0 : (marksErr l == 0) = false := by rw [beq_eq_false_iff_ne]; exact he
      have HF : Hid (f1 l ⟨q, ⟨d, n⟩⟩ = marksErr l) := if_neg he
      clear he
      go_wp2_with fail
      go_meet
      case rel => exact ⟨by rw [HF.out], HB3⟩
  case rest => as_aux_lemma =>
    obtain ⟨rfl, HB4⟩ := hcut
    clear HB3
    go_upto_if 41 with (fail)
    go_cut [12, 11] (fun v a wx => a = .int .i64 (cutErr l ⟨q, ⟨d, n⟩⟩) ∧ MarksAt W0 (giveM (cutErr l ⟨q, ⟨d, n⟩⟩) (cutRes l ⟨q, ⟨d, n⟩⟩)) v wx)
    case first => as_aux_lemma =>
      have b0 : wc.cell? ⟨w.heap.size, 0, none⟩ = some (.string q) := by rw [(HBK.out _ HB4.out).cell]; rfl
      have b1 : wc.cell? ⟨w.heap.size, 1, none⟩ = some (.int .i64 d) := by rw [(HBK.out _ HB4.out).cell]; rfl
      have b2 : wc.cell? ⟨w.heap.size, 2, none⟩ = some (.int .i64 n) := by rw [(HBK.out _ HB4.out).cell]; rfl
      have HC : Hid (cutErr l ⟨q, ⟨d, n⟩⟩ = if f1 l ⟨q, ⟨d, n⟩⟩ = 0 then withErr l ⟨q, ⟨d, n⟩⟩ else f1 l ⟨q, ⟨d, n⟩⟩) := cut_f1 _ _
      by_cases he : f1 l ⟨q, ⟨d, n⟩⟩ = 0
      · have hme : marksErr l = 0 := by
          unfold f1 at he
          by_cases h : marksErr l = 0
          · exact h
          · rw [if_neg h] at he; exact he
        have g0 : (f1 l ⟨q, ⟨d, n⟩⟩ == 0) = true := by rw [beq_iff_eq]; exact he
        have HF : Hid (cutErr l ⟨q, ⟨d, n⟩⟩ = withErr l ⟨q, ⟨d, n⟩⟩) := by show _ = _; rw [HC.out, if_pos he]
        have HM := Lib.hid hme
        clear he hme
        go_wp2_with fail
        refine (KRW.out _ HB4.out HM.out).mono ?_
        rintro e w5 ⟨V, cV, rfl, hO, hb5⟩
        have HB5 := Lib.hid (HB4.out.trans (hb5.mono HB4.out.size))
        have HRD : Hid (Reads w5 w5.heap.size 3 V (giveM (withErr l ⟨q, ⟨d, n⟩⟩) (cutRes l ⟨q, ⟨d, n⟩⟩)).length (mcells (giveM (withErr l ⟨q, ⟨d, n⟩⟩) (cutRes l ⟨q, ⟨d, n⟩⟩)))) := by
          rcases hO with hO | ⟨rfl, rfl, hO⟩
          · exact hO.reads
          · rw [hO]; exact HR.out _ HB5.out
        clear hb5 hO
        go_wp2_with fail
        go_meet
        case rel => exact ⟨by rw [HF.out], V, cV, by rw [HF.out], by rw [HF.out]; exact HRD, HB5⟩
      · have g0 : (f1 l ⟨q, ⟨d, n⟩⟩ == 0) = false := by rw [beq_eq_false_iff_ne]; exact he
        have HF : Hid (cutErr l ⟨q, ⟨d, n⟩⟩ = f1 l ⟨q, ⟨d, n⟩⟩) := by show _ = _; rw [HC.out, if_neg he]
        have HE : Hid (giveM (cutErr l ⟨q, ⟨d, n⟩⟩) (cutRes l ⟨q, ⟨d, n⟩⟩) = []) := giveM_bad (by rw [HF.out]; exact he) _
        clear he
        go_wp2_with fail
        go_meet
        case rel => exact ⟨by rw [HF.out], none, 0, by rw [HE.out]; rfl, by rw [HE.out]; exact Reads.none_, HB4⟩
    case rest => as_aux_lemma =>
      obtain ⟨rfl, V, cV, rfl, HV, HB5⟩ := hcut
      clear HB4
      have b0 : wc.cell? ⟨w.heap.size, 0, none⟩ = some (.string q) := by rw [(HBK.out _ HB5.out).cell]; rfl
      have b1 : wc.cell? ⟨w.heap.size, 1, none⟩ = some (.int .i64 d) := by rw [(HBK.out _ HB5.out).cell]; rfl
      have b2 : wc.cell? ⟨w.heap.size, 2, none⟩ = some (.int .i64 n) := by rw [(HBK.out _ HB5.out).cell]; rfl
      have hlen : (giveM (cutErr l ⟨q, ⟨d, n⟩⟩) (cutRes l ⟨q, ⟨d, n⟩⟩)).length ≤ 1000000 := by
        unfold giveM
        split
        · next h0 => have := (cut_marks h0).few; omega
        · simp
      have HL1 := Lib.hid hlen
      clear hlen
      go_wp2_with fail
      refine (KCU.out _ HB5.out).mono ?_
      rintro e w6 ⟨V2, cV2, rfl, hO6, hb6⟩
      have HB6 := Lib.hid (HB5.out.trans (hb6.mono HB5.out.size))
      have HV6 := Lib.hid ((HV.out.below hb6).more hb6.size)
      have HO6 := Lib.hid hO6.reads
      clear hb6 HB5 HV hO6 b0 b1 b2
      go_wp2_with fail
      refine (KE.out _ HB6.out _ _).mono ?_
      rintro e w7 ⟨rfl, hb7⟩
      rw [beq_self]
      have HB7 := Lib.hid (HB6.out.trans (hb7.mono HB6.out.size))
      have HV7 := Lib.hid ((HV6.out.below hb7).more hb7.size)
      have HO7 := Lib.hid ((HO6.out.below hb7).more hb7.size)
      clear hb7 HB6 HV6 HO6
      go_wp2_with fail
      refine (KSM.out _ _ _ _ _ _ HO7.out HV7.out HL1.out).mono ?_
      rintro e w8 ⟨rfl, hb8⟩
      have HB8 := Lib.hid (HB7.out.trans (hb8.mono HB7.out.size))
      clear hb8 HB7 HV7 HO7
      go_upto_block 0 with (fail)
      go_cut [17] (fun v wx => TxtsAt W0 (giveT (marksErr l) (places l)) v wx)
      case first => as_aux_lemma =>
        by_cases he : marksErr l = 0
        · have g0 : (marksErr l == 0) = true := by rw [beq_iff_eq]; exact he
          have HGT : Hid (giveT (marksErr l) (places l) = places l) := if_pos he
          have hfew := HFEW.out he
          have HRc := Lib.hid (fun W hb => HR.out W hb)
          clear he
          go_wp2_with fail
          go_loopw [17, 18] (fun v i wr => PlcLoop W0 l v i wr) (fun _ i _ => l.length - (intOf i).toNat)
          case atStart => exact ⟨0, 0, none, by omega, rfl, rfl, Own.nil _ _ _ _, HB8.out⟩
          case round =>
            obtain ⟨k, cv, V1, hk, rfl, rfl, HO, HB⟩ := hrel
            by_cases hkn : k < l.length
            · obtain ⟨ad, rfl, hb, c0, _, _⟩ := (HR.out _ HB.out).mark hkn
              have hlt : (k : Int) < (l.length : Int) := by omega
              have hd : decide ((k : Int) < (l.length : Int)) = true := decide_eq_true hlt
              have hk0 : (0 : Int) ≤ (k : Int) := by omega
              have hle2 := places_le l k hk
              have HTK := Lib.hid (places_step hkn)
              have HPV : Hid (∀ j, k = j + 1 → ∃ (hj : j < l.length), l.getD (k - 1) default = l[j] ∧ wr.cell? (ad.add (j * 3)) = some (.string l[j].place)) := fun j hj => by
                have hj2 : j < l.length := by omega
                obtain ⟨ad2, e, _, f0, _, _⟩ := (HR.out _ HB.out).mark hj2
                injection e with e
                subst e
                exact ⟨hj2, by rw [hj]; simp [List.getD, hj2], f0⟩
              have hF : Fits ((places (l.take k)).length + 1) 16 := Fits.of_small (by omega) (by decide)
              generalize places (l.take k) = T at HTK hle2 HO hF ⊢
              generalize l[k].place = q at *
              rcases Nat.eq_zero_or_pos k with hk1 | hk1
              · have HT : Hid (places (l.take (k + 1)) = T ++ [q]) := by show _ = _; rw [HTK.out, if_pos (.inl hk1)]
                have k0 : ((k : Int) == 0) = true := by rw [beq_iff_eq]; omega
                clear HTK HPV hk1
                go_wp2_with fail
                go_quiet (fail)
                go_wp2_with (at_builtin; go_loud (refine wpList_app _ (.tmp 86) (.tmp 92) rfl rfl elemT rfl rfl ((HO.out.drewN _).alloc _) (reads_txt (wr.drewN _) q) (oneCells_txts _) hF (base_app HB.out (Nat.le_refl _) _ _) ?_; intro V2 cv2 w2 HO2 HL2 HX2; have HOn := Lib.hid HO2; have HBn : Hid (Below W0.heap.size W0 w2) := below_app HB.out (Nat.le_refl _) HO.out HL2; clear HO2 HL2 HX2))
                go_roundw
                case rel =>
                  refine ⟨k + 1, cv2, V2, by omega, by first | rfl | go_num, by rw [HT.out, List.length_append]; rfl, Lib.hid ?_, HBn⟩
                  rw [HT.out, List.length_append, show txts (T ++ [q]) = txts T ++ txts [q] by simp [txts]]
                  exact HOn.out
                case measure => simp [intOf]; omega
              · obtain ⟨j, rfl⟩ : ∃ j, k = j + 1 := ⟨k - 1, by omega⟩
                obtain ⟨hj, hpj, f0⟩ := HPV.out j rfl
                have q1 : IntKind.i64.wrap ((j : Int) + 1 - 1) = (j : Int) := by rw [IntWalk.i64_in _ (by omega)]; omega
                have q2 : IntKind.i64.wrap (((j + 1 : Nat) : Int) - 1) = (j : Int) := by rw [IntWalk.i64_in _ (by omega)]; omega
                have q3 : IntKind.i64.wrap (j : Int) = (j : Int) := by rw [IntWalk.i64_in _ (by omega)]
                have j0 : (0 : Int) ≤ (j : Int) := by omega
                have j1 : (j : Int) < (l.length : Int) := by omega
                have j3 : (0 : Int) ≤ (j : Int) + 1 := by omega
                have j4 : ((j : Int) + 1).toNat = j + 1 := by omega
                have j5 : (j : Int) + 1 < (l.length : Int) := by omega
                have j6 : (0 : Int) ≤ ((j + 1 : Nat) : Int) := by omega
                have j7 : j + 1 < l.length := by omega
                have k0 : (((j + 1 : Nat) : Int) == 0) = false := by rw [beq_eq_false_iff_ne]; omega
                have k1 : ((j : Int) + 1 == 0) = false := by rw [beq_eq_false_iff_ne]; omega
                have HPJ := Lib.hid hpj
                clear hpj HPV hd
                generalize l[j] = y at *
                obtain ⟨py, dy⟩ := y
                simp only at f0
                by_cases hq : py = q
                · have HT : Hid (places (l.take (j + 1 + 1)) = T) := by
                    show _ = _
                    rw [HTK.out, HPJ.out, if_neg, List.append_nil]
                    rintro (h | h)
                    · omega
                    · exact h hq
                  have g2 : (q.toList == py.toList) = true := by rw [hq]; simp
                  have g3 : (q.toList != py.toList) = false := by rw [hq]; simp
                  clear hq HTK
                  go_wp2_with fail
                  go_quiet (fail)
                  go_wp2_with fail
                  go_roundw
                  case rel =>
                    refine ⟨j + 1 + 1, cv, V1, by omega, by go_num, by rw [HT.out], Lib.hid ?_, below_drewN HB.out _⟩
                    rw [HT.out]
                    exact HO.out.drewN _
                  case measure => simp [intOf]; omega
                · have HT : Hid (places (l.take (j + 1 + 1)) = T ++ [q]) := by
                    show _ = _
                    rw [HTK.out, HPJ.out, if_pos (.inr hq)]
                  have g2 : (q.toList == py.toList) = false := by rw [beq_eq_false_iff_ne]; exact fun h => hq (tl_inj h.symm)
                  have g3 : (q.toList != py.toList) = true := by rw [bne_iff_ne]; exact fun h => hq (tl_inj h.symm)
                  clear hq HTK
                  go_wp2_with fail
                  go_quiet (fail)
                  go_wp2_with (at_builtin; go_loud (refine wpList_app _ (.tmp 86) (.tmp 92) rfl rfl elemT rfl rfl ((HO.out.drewN _).alloc _) (reads_txt (wr.drewN _) q) (oneCells_txts _) hF (base_app HB.out (Nat.le_refl _) _ _) ?_; intro V2 cv2 w2 HO2 HL2 HX2; have HOn := Lib.hid HO2; have HBn : Hid (Below W0.heap.size W0 w2) := below_app HB.out (Nat.le_refl _) HO.out HL2; clear HO2 HL2 HX2))
                  go_roundw
                  case rel =>
                    refine ⟨j + 1 + 1, cv2, V2, by omega, by first | rfl | go_num, by rw [HT.out, List.length_append]; rfl, Lib.hid ?_, HBn⟩
                    rw [HT.out, List.length_append, show txts (T ++ [q]) = txts T ++ txts [q] by simp [txts]]
                    exact HOn.out
                  case measure => simp [intOf]; omega
            · have hd : decide ((k : Int) < (l.length : Int)) = false := by simp; omega
              have HT : Hid (places (l.take k) = places l) := by show _ = _; rw [List.take_of_length_le (by omega)]
              go_wp2_with fail
              go_meet
              case rel =>
                rw [HT.out] at HO ⊢
                exact ⟨V1, cv, by rw [HGT.out], by rw [HGT.out]; exact HO.out.reads, HB⟩
        · have g0 : (marksErr l == 0) = false := by rw [beq_eq_false_iff_ne]; exact he
          have HE : Hid (giveT (marksErr l) (places l) = []) := giveT_bad he _
          clear he
          go_wp2_with fail
          go_loopw [17, 18] (fun v i wr => v = .slice none 0 0 ∧ i = .int .i64 0 ∧ Hid (Below W0.heap.size W0 wr)) (fun _ i _ => 0)
          case atStart => exact ⟨rfl, rfl, HB8⟩
          case round =>
            obtain ⟨rfl, rfl, HB9⟩ := hrel
            go_wp2_with fail
            all_goals
              go_meet
              case rel => exact ⟨none, 0, by rw [HE.out]; rfl, by rw [HE.out]; exact Reads.none_, HB9⟩
      case rest => as_aux_lemma =>
        obtain ⟨VP, cP, rfl, HVP, HB9⟩ := hcut
        clear HB8
        have hlp : (giveT (marksErr l) (places l)).length ≤ 1000000 := by
          unfold giveT
          split
          · next h0 => have := HFEW.out h0; have := places_le l l.length (Nat.le_refl _); rw [List.take_length] at this; omega
          · simp
        have HLP := Lib.hid hlp
        clear hlp
        go_wp2_with fail
        refine (KPL.out _ HB9.out).mono ?_
        rintro e w10 ⟨V3, cV3, rfl, hO10, hb10⟩
        have HB10 := Lib.hid (HB9.out.trans (hb10.mono HB9.out.size))
        have HVP10 := Lib.hid ((HVP.out.below hb10).more hb10.size)
        have HO10 := Lib.hid hO10.reads
        clear hb10 HB9 HVP hO10
        go_wp2_with fail
        refine (KE.out _ HB10.out _ _).mono ?_
        rintro e w11 ⟨rfl, hb11⟩
        rw [beq_self]
        have HB11 := Lib.hid (HB10.out.trans (hb11.mono HB10.out.size))
        have HVP11 := Lib.hid ((HVP10.out.below hb11).more hb11.size)
        have HO11 := Lib.hid ((HO10.out.below hb11).more hb11.size)
        clear hb11 HB10 HVP10 HO10
        go_wp2_with fail
        refine (KST.out _ _ _ _ _ _ HO11.out HVP11.out HLP.out).mono ?_
        rintro e w12 ⟨rfl, hb12⟩
        have HB12 := Lib.hid (HB11.out.trans (hb12.mono HB11.out.size))
        clear hb12 HB11 HVP11 HO11
        go_upto_if 106 with (fail)
        go_cut [9] (fun a wx => a = .int .i64 (seenErr l p) ∧ wx = w12)
        case first => as_aux_lemma =>
          by_cases he : marksErr l = 0
          · have g0 : (marksErr l == 0) = true := by rw [beq_iff_eq]; exact he
            have HF : Hid (seenErr l p = placeErr p) := by show _ = _; unfold seenErr; rw [if_neg (fun x => x he)]
            clear he
            go_wp2_with fail
            refine (KRP.out _).mono ?_
            rintro e w13 ⟨rfl, rfl⟩
            go_wp2_with fail
            go_meet
            case rel => exact ⟨by rw [HF.out], rfl⟩
          · have g0 : (marksErr l == 0) = false := by rw [beq_eq_false_iff_ne]; exact he
            have HF : Hid (seenErr l p = marksErr l) := by show _ = _; unfold seenErr; rw [if_pos he]
            clear he
            go_wp2_with fail
            go_meet
            case rel => exact ⟨by rw [HF.out], rfl⟩
        case rest => as_aux_lemma =>
          obtain ⟨rfl, hwc⟩ := hcut
          subst wc
          have HSE : Hid (seenErr l p = 0 → marksErr l = 0) := fun h => by
            unfold seenErr at h
            by_cases h1 : marksErr l = 0
            · exact h1
            · rw [if_pos h1] at h; exact h
          go_upto_block 2 with (fail)
          go_cut [22] (fun v wx => DotsAt W0 (giveD (seenErr l p) (seenAt l p)) v wx)
          case first => as_aux_lemma =>
            by_cases he : seenErr l p = 0
            · have g0 : (seenErr l p == 0) = true := by rw [beq_iff_eq]; exact he
              have HGT : Hid (giveD (seenErr l p) (seenAt l p) = seenAt l p) := if_pos he
              have hfew := HFEW.out (HSE.out he)
              clear he
              go_wp2_with fail
              go_loopw [22, 23] (fun v i wr => SeenLoop W0 l p v i wr) (fun _ i _ => l.length - (intOf i).toNat)
              case atStart => exact ⟨0, 0, none, by omega, rfl, rfl, Own.nil _ _ _ _, HB12.out⟩
              case round =>
                obtain ⟨k, cv, V1, hk, rfl, rfl, HO, HB⟩ := hrel
                by_cases hkn : k < l.length
                · obtain ⟨ad, rfl, hb, c0, c1, c2⟩ := (HR.out _ HB.out).mark hkn
                  have hlt : (k : Int) < (l.length : Int) := by omega
                  have hd : decide ((k : Int) < (l.length : Int)) = true := decide_eq_true hlt
                  have hk0 : (0 : Int) ≤ (k : Int) := by omega
                  have hle := seenAt_len (l.take k) p
                  rw [List.length_take] at hle
                  have hle2 : (seenAt (l.take k) p).length ≤ k := by omega
                  have HTK := Lib.hid (seenAt_take (l := l) (p := p) hkn)
                  clear hle
                  generalize l[k] = x at c0 c1 c2 HTK
                  generalize seenAt (l.take k) p = T at HTK hle2 HO ⊢
                  obtain ⟨q, ⟨d, n⟩⟩ := x
                  simp only at c0 c1 c2
                  by_cases hp : q = p
                  · have HT : Hid (seenAt (l.take (k + 1)) p = T ++ [⟨d, n⟩]) := by show _ = _; rw [HTK.out, if_pos hp]
                    have g2 : (q.toList == p.toList) = true := by rw [hp]; simp
                    have hF : Fits (T.length + 1) 16 := Fits.of_small (by omega) (by decide)
                    have HRW := Lib.hid (Reads.row wr 80 #[.int .i64 d, .int .i64 n])
                    clear hp HTK
                    go_wp2_with (at_builtin; go_loud (refine wpList_app _ (.tmp 126) (.tmp 132) rfl rfl elemD rfl rfl (HO.out.alloc _) HRW.out (oneCells_d [⟨d, n⟩]) hF ((HB.out.alloc HB.out.size _).size) ?_; intro V2 cv2 w2 HO2 HL2 HX2; have HOn := Lib.hid HO2; have HBn : Hid (Below W0.heap.size W0 w2) := (HB.out.alloc HB.out.size _).trans (HL2.below ((HB.out.alloc HB.out.size _).size) (fun g hg => (HO.out.lt g hg).1)); clear HO2 HL2 HX2))
                    go_roundw
                    case rel =>
                      refine ⟨k + 1, cv2, V2, by omega, by go_num, by rw [HT.out, List.length_append]; rfl, Lib.hid ?_, HBn⟩
                      rw [HT.out, List.length_append, ← dcells_append]
                      exact HOn.out
                    case measure => simp [intOf]; omega
                  · have HT : Hid (seenAt (l.take (k + 1)) p = T) := by show _ = _; rw [HTK.out, if_neg hp, List.append_nil]
                    have g2 : (q.toList == p.toList) = false := by rw [beq_eq_false_iff_ne]; exact fun h => hp (tl_inj h)
                    clear hp HTK
                    go_wp2_with fail
                    go_roundw
                    case rel =>
                      refine ⟨k + 1, cv, V1, by omega, by go_num, by rw [HT.out], Lib.hid ?_, HB⟩
                      rw [HT.out]
                      exact HO.out
                    case measure => simp [intOf]; omega
                · have hd : decide ((k : Int) < (l.length : Int)) = false := by simp; omega
                  have HT : Hid (l.take k = l) := List.take_of_length_le (by omega)
                  go_wp2_with fail
                  go_meet
                  case rel =>
                    rw [HT.out] at HO ⊢
                    exact ⟨V1, cv, by rw [HGT.out], by rw [HGT.out]; exact HO.out.reads, HB⟩
            · have g0 : (seenErr l p == 0) = false := by rw [beq_eq_false_iff_ne]; exact he
              have HE : Hid (giveD (seenErr l p) (seenAt l p) = []) := giveD_bad he _
              clear he
              go_wp2_with fail
              go_loopw [22, 23] (fun v i wr => v = .slice none 0 0 ∧ i = .int .i64 0 ∧ Hid (Below W0.heap.size W0 wr)) (fun _ i _ => 0)
              case atStart => exact ⟨rfl, rfl, HB12⟩
              case round =>
                obtain ⟨rfl, rfl, HBx⟩ := hrel
                go_wp2_with fail
                all_goals
                  go_meet
                  case rel => exact ⟨none, 0, by rw [HE.out]; rfl, by rw [HE.out]; exact Reads.none_, HBx⟩
          case rest => as_aux_lemma =>
            obtain ⟨VD, cD, rfl, HVD, HB13⟩ := hcut
            clear HB12
            have hld : (giveD (seenErr l p) (seenAt l p)).length ≤ 1000000 := by
              unfold giveD
              split
              · next h0 => have := HFEW.out (HSE.out h0); have := seenAt_len l p; omega
              · simp
            have HLD := Lib.hid hld
            clear hld
            go_wp2_with fail
            refine (KSE.out _ HB13.out).mono ?_
            rintro e w14 ⟨V4, cV4, rfl, hO14, hb14⟩
            have HB14 := Lib.hid (HB13.out.trans (hb14.mono HB13.out.size))
            have HVD14 := Lib.hid ((HVD.out.below hb14).more hb14.size)
            have HO14 := Lib.hid hO14.reads
            clear hb14 HB13 HVD hO14
            go_wp2_with fail
            refine (KE.out _ HB14.out _ _).mono ?_
            rintro e w15 ⟨rfl, hb15⟩
            rw [beq_self]
            have HB15 := Lib.hid (HB14.out.trans (hb15.mono HB14.out.size))
            have HVD15 := Lib.hid ((HVD14.out.below hb15).more hb15.size)
            have HO15 := Lib.hid ((HO14.out.below hb15).more hb15.size)
            clear hb15 HB14 HVD14 HO14
            go_wp2_with fail
            refine (KSD.out _ _ _ _ _ _ HO15.out HVD15.out HLD.out).mono ?_
            rintro e w16 ⟨rfl, hb16⟩
            have HB16 := Lib.hid (HB15.out.trans (hb16.mono HB15.out.size))
            clear hb16 HB15 HVD15 HO15
            have HSN : Hid (e3 l p seen = 0 → seenErr l p = 0 ∧ seen.length ≤ 40) := fun h => by
              unfold e3 at h
              by_cases h1 : seenErr l p = 0 ∧ 40 < seen.length
              · rw [if_pos h1] at h; omega
              · rw [if_neg h1] at h; exact ⟨h, by omega⟩
            have HRI : Hid (seen.length ≤ 9223372036854775807) := hn2
            go_upto_region 32 with (fail)
            go_cut [152] (fun v wx => v = .bool (decide (seenErr l p = 0 ∧ 40 < seen.length)) ∧ wx = w16)
            case first => as_aux_lemma =>
              by_cases he : seenErr l p = 0
              · have g0 : (seenErr l p == 0) = true := by rw [beq_iff_eq]; exact he
                have Z : Hid (decide (seenErr l p = 0 ∧ 40 < seen.length) = decide (40 < seen.length)) := by show _ = _; congr 1; simp [he]
                clear he
                by_cases h4 : 40 < seen.length
                · have Z2 := Lib.hid (decide_eq_true h4)
                  go_wp2_with fail
                  go_meet
                  case rel => exact ⟨by rw [Z.out, Z2.out]; exact congrArg Value.bool (decide_eq_true (by omega)), rfl⟩
                · have Z2 := Lib.hid (decide_eq_false h4)
                  go_wp2_with fail
                  go_meet
                  case rel => exact ⟨by rw [Z.out, Z2.out]; exact congrArg Value.bool (decide_eq_false (by omega)), rfl⟩
              · have g0 : (seenErr l p == 0) = false := by rw [beq_eq_false_iff_ne]; exact he
                have Z : Hid (decide (seenErr l p = 0 ∧ 40 < seen.length) = false) := decide_eq_false (fun h => he h.1)
                clear he
                go_wp2_with fail
                go_meet
                case rel => exact ⟨by rw [Z.out], rfl⟩
            case rest => as_aux_lemma =>
              obtain ⟨rfl, hwc⟩ := hcut
              subst wc
              go_upto_if 152 with (fail)
              go_cut [9] (fun v wx => v = .int .i64 (e3 l p seen) ∧ wx = w16)
              case first => as_aux_lemma =>
                by_cases h : seenErr l p = 0 ∧ 40 < seen.length
                · have Z : Hid (e3 l p seen = 4) := if_pos h
                  rw [decide_eq_true h]
                  clear h
                  go_wp2_with fail
                  go_meet
                  case rel => exact ⟨by rw [Z.out], rfl⟩
                · have Z : Hid (e3 l p seen = seenErr l p) := if_neg h
                  rw [decide_eq_false h]
                  clear h
                  go_wp2_with fail
                  go_meet
                  case rel => exact ⟨by rw [Z.out], rfl⟩
              case rest => as_aux_lemma =>
                obtain ⟨rfl, hwc⟩ := hcut
                subst wc
                have HJE : Hid (joinErr l p seen = if e3 l p seen = 0 then riseErr seen else e3 l p seen) := join_e3 l p seen
                go_upto_if 154 with (fail)
                go_cut [9] (fun v wx => v = .int .i64 (joinErr l p seen) ∧ Hid (Below W0.heap.size W0 wx))
                case first => as_aux_lemma =>
                  by_cases he : e3 l p seen = 0
                  · have g0 : (e3 l p seen == 0) = true := by rw [beq_iff_eq]; exact he
                    have Z : Hid (joinErr l p seen = riseErr seen) := by show _ = _; rw [HJE.out, if_pos he]
                    have KD := Lib.hid (KRD.out _ HB16.out (HSN.out he).2)
                    clear he
                    go_wp2_with fail
                    refine KD.out.mono ?_
                    rintro e w17 ⟨rfl, hb17⟩
                    have HB17 := Lib.hid (HB16.out.trans (hb17.mono HB16.out.size))
                    clear hb17
                    go_wp2_with fail
                    go_meet
                    case rel => exact ⟨by rw [Z.out], HB17⟩
                  · have g0 : (e3 l p seen == 0) = false := by rw [beq_eq_false_iff_ne]; exact he
                    have Z : Hid (joinErr l p seen = e3 l p seen) := by show _ = _; rw [HJE.out, if_neg he]
                    clear he
                    go_wp2_with fail
                    go_meet
                    case rel => exact ⟨by rw [Z.out], HB16⟩
                case rest => as_aux_lemma =>
                  obtain ⟨rfl, HB17⟩ := hcut
                  clear HB16
                  have HJZ : Hid (joinErr l p seen = 0 → marksErr l = 0 ∧ seen.length ≤ 40) := fun h => by
                    rw [HJE.out] at h
                    by_cases h1 : e3 l p seen = 0
                    · exact ⟨HSE.out (HSN.out h1).1, (HSN.out h1).2⟩
                    · rw [if_neg h1] at h; exact absurd h h1
                  go_upto_if 158 with (fail)
                  go_cut [12] (fun v wx => MarksAt W0 (giveM (joinErr l p seen) (joinRes l p seen)) v wx)
                  case first => as_aux_lemma =>
                    by_cases he : joinErr l p seen = 0
                    · have g0 : (joinErr l p seen == 0) = true := by rw [beq_iff_eq]; exact he
                      have Z : Hid (giveM (joinErr l p seen) (joinRes l p seen) = joinRes l p seen) := if_pos he
                      have KW := Lib.hid (KWO.out _ HB17.out (HJZ.out he).2 (HJZ.out he).1)
                      clear he
                      go_wp2_with fail
                      refine KW.out.mono ?_
                      rintro e w18 ⟨V5, cV5, rfl, hO18, hb18⟩
                      have HB18 := Lib.hid (HB17.out.trans (hb18.mono HB17.out.size))
                      have HO18 := Lib.hid hO18.reads
                      clear hb18 hO18
                      go_wp2_with fail
                      go_meet
                      case rel => exact ⟨V5, cV5, by rw [Z.out], by rw [Z.out]; exact HO18, HB18⟩
                    · have g0 : (joinErr l p seen == 0) = false := by rw [beq_eq_false_iff_ne]; exact he
                      have Z : Hid (giveM (joinErr l p seen) (joinRes l p seen) = []) := giveM_bad he _
                      clear he
                      go_wp2_with fail
                      go_meet
                      case rel => exact ⟨none, 0, by rw [Z.out]; rfl, by rw [Z.out]; exact Reads.none_, HB17⟩
                  case rest => as_aux_lemma =>
                    obtain ⟨VW, cW, rfl, HVW, HB18⟩ := hcut
                    clear HB17
                    have hlw : (giveM (joinErr l p seen) (joinRes l p seen)).length ≤ 1000000 := by
                      unfold giveM
                      split
                      · next h0 => have := HFEW.out (HJZ.out h0).1; have := joinRes_len l p seen; omega
                      · simp
                    have HLW := Lib.hid hlw
                    clear hlw
                    go_wp2_with fail
                    refine (KJO.out _ HB18.out).mono ?_
                    rintro e w19 ⟨V6, cV6, rfl, hO19, hb19⟩
                    have HB19 := Lib.hid (HB18.out.trans (hb19.mono HB18.out.size))
                    have HVW19 := Lib.hid ((HVW.out.below hb19).more hb19.size)
                    have HO19 := Lib.hid hO19.reads
                    clear hb19 HB18 HVW hO19
                    go_wp2_with fail
                    refine (KE.out _ HB19.out _ _).mono ?_
                    rintro e w20 ⟨rfl, hb20⟩
                    rw [beq_self]
                    have HB20 := Lib.hid (HB19.out.trans (hb20.mono HB19.out.size))
                    have HVW20 := Lib.hid ((HVW19.out.below hb20).more hb20.size)
                    have HO20 := Lib.hid ((HO19.out.below hb20).more hb20.size)
                    clear hb20 HB19 HVW19 HO19
                    go_wp2_with fail
                    refine (KSM.out _ _ _ _ _ _ HO20.out HVW20.out HLW.out).mono ?_
                    rintro e w21 ⟨rfl, hb21⟩
                    have HB21 := Lib.hid (HB20.out.trans (hb21.mono HB20.out.size))
                    clear hb21 HB20 HVW20 HO20
                    go_wp2_with fail
                    go_ret
                    exact ⟨rfl, HBW.out.trans (HB21.out.mono HBW.out.size)⟩
set_option maxRecDepth 100000 in
theorem lifted (os : Os) (started : os.Started) (H : Type) (enc : TypeId × Value → H) :
    ReturnsInHanded {} Tryd.checked os 10 .any (fun w args => (Rows.marksTellSpec.pre enc Tryd.prog Tryd.f10 [] false w args ∧ laidMetH Tryd.prog Card.laid w) ∧ sizedMet enc Tryd.prog Tryd.f10 (OpenSpec.ofChange Rows.marksTellSpec) false w args)
      (Rows.marksTellSpec.post enc Tryd.prog Tryd.f10 false true false false) := by
  refine returnsInHanded_of_change_and (C := Tryd.checked) (X := fun w _ => laidMetH Tryd.prog Card.laid w) (fun _ _ _ hh h => h.of_heap hh) Tryd.own started (by kernel_rfl) Tryd.func10
    (ChangeSpec.witness_at (enc := enc) (C := Tryd.checked) (os := os) (X := fun w _ => laidMetH Tryd.prog Card.laid w) false (Card.laidWorld os) #[.slice none 0 0, .agg #[.string ⟨#[]⟩, .int .i64 0, .int .i64 0], .string ⟨#[]⟩, .slice none 0 0] 8 rfl (by kernel_rfl) (by kernel_rfl) (by kernel_rfl) (by kernel_rfl) (by kernel_rfl) (Card.laidWorld_met os _)) ?_
  intro W base args ds gs before hval0 hW _ hsz0 hL _
  have hval : ∀ (j : Nat) t v, Tryd.f10.params[j]? = some t → args[j]? = some v → Value.okWide Tryd.prog W .any base t v := hval0
  obtain ⟨p, q, hA0, _⟩ := id hW
  have hA : DataW.TrodAll enc Tryd.prog W 0 (fun _ => true) true Tryd.f10.params.toList args.toList ds p := hA0
  have hsz : (DataW.weightsEach Tryd.prog (Tryd.f10.params.toList ++ Rows.marksTellSpec.plain.varTypes Tryd.prog) (ds ++ gs)).all (· ≤ reachBytes) = true := hsz0
  rw [Tryd.params10] at hA hval hsz
  obtain ⟨v0, v1, v2, v3, d0, d1, d2, d3, p0, p1, p2, p3, rfl, rfl, rfl, h0, h1, h2, h3⟩ := trodAll_four hA
  obtain ⟨A0, c0, l0, rfl, r0, g0, lc0, cm0⟩ := arg_marks (hval 0 102 v0 rfl rfl) h0
  obtain ⟨y1, rfl, g1⟩ := arg_mark (hval 1 118 v1 rfl rfl) h1
  obtain ⟨a2, rfl, rfl, rfl, wa2⟩ := Go.ChangeMaps.open_string Tryd.underlying9 (hval 2 9 v2 rfl rfl) h2
  obtain ⟨A3, c3, l3, rfl, r3, g3, lc3, cm3⟩ := arg_dots (hval 3 81 v3 rfl rfl) h3
  refine (walk W A0 c0 l0 y1 a2 A3 c3 l3 (Card.glob_of_laid hL) r0 (fun x hx => by have := (g0 x hx).1; unfold maxLen at this; omega) lc0 (by unfold maxLen at cm0; omega) (by have := g1.1; unfold maxLen at this; omega) (by unfold maxLen at wa2; exact wa2) r3 (by unfold maxLen at cm3; omega)).mono fun e W' ⟨he, hb⟩ => ⟨_, he, ?_⟩
  exact law_post Tryd.laidOut (tb := 4) (by kernel_rfl) Tryd.underlying4 (by rw [Tryd.params10]; simp only [List.mem_cons, List.not_mem_nil, or_false]; rintro t (rfl | rfl | rfl | rfl) <;> exact ⟨by kernel_rfl, of_decide_eq_true (by kernel_rfl)⟩) rfl rfl hW hb

theorem holds : Rows.MarksTellSaid :=
  OpenClaim.holds_of_wide 10 Tryd.f10 rfl rfl rfl rfl rfl rfl rfl ⟨rfl, rfl, rfl, rfl, rfl⟩ rfl rfl rfl rfl rfl (by kernel_rfl) Tryd.func10 (by kernel_rfl)
    (of_decide_eq_true (by kernel_rfl)) (by unfold Func.isWrapper; first | (rw [if_pos (by decide +kernel)]; kernel_rfl) | (rw [if_neg (by decide +kernel)]; exact ⟨rfl, rfl⟩))
    (fun os started H enc _ => lifted os started H enc)
theorem noStand : ∀ t ∈ Tryd.f10.params.toList, Tryd.prog.wantsStandIn t = false := by
  rw [Tryd.params10]
  simp only [List.mem_cons, List.not_mem_nil, or_false]
  rintro t (rfl | rfl | rfl | rfl) <;> kernel_rfl
theorem card_holds : Rows.MarksTellCardSaid :=
  Claim7.holds_tied_plain_at .later [] [.handle] true Rows.marksTellCard.stood.harness true
    holds (fun _ h => by cases h) (by kernel_rfl) (fun _ h => by cases h) marksTell_row_tie rfl ⟨rfl, rfl⟩ (by kernel_rfl) rfl
    (fun f fn hf hfn => by
      obtain rfl : f = 10 := Option.some.inj ((show Tryd.prog.funcNamed Rows.marksTellRow.func = some 10 by kernel_rfl).symm.trans hf) |>.symm
      obtain rfl : fn = Tryd.f10 := (Option.some.inj (Tryd.func10.symm.trans hfn)).symm
      exact ⟨by kernel_rfl, fun j t ht => noStand t (by
        have := Array.mem_of_getElem? ht
        simpa using this)⟩)
    (by kernel_rfl)
#print axioms card_holds
end lawMarksTell
end Go.Proofs.YtpofdjikogoobaaDoor

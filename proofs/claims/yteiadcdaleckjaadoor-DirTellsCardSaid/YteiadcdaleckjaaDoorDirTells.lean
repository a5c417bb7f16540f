/- leaflaw1.DirTells, walked: into which stretches any book is cut, where any offset is, what any of them has, where any place is. Conditions: the library's one variable holds what its text lays. -/
import Derived.Deep.CutBlock
import Derived.Deep.RegionHeld3
import Derived.Test.YteiadcdaleckjaaDoorDirUni
import Derived.Test.YteiadcdaleckjaaDoorRefBook
import Derived.Test.YteiadcdaleckjaaDoorRefMarks
import Derived.Test.YteiadcdaleckjaaDoorRefPlace
import Derived.Test.YteiadcdaleckjaaDoorRefStr
import Derived.Test.YteiadcdaleckjaaDoorSameStretches
import Derived.Test.YteiadcdaleckjaaDoorTold
namespace Go.Proofs.YteiadcdaleckjaaDoor
open Go.RowKit
set_option linter.unusedVariables false
namespace lawDirTells
def StrIn (ss : List LStr) : Prop := ss.length ≤ 100 ∧ ∀ k (hk : k < ss.length), ∃ f n : Nat, ss[k].from_ = (f : Int) ∧ ss[k].long = (n : Int) ∧ f + n ≤ 300
theorem str_in (l : List LLeaf) (m : List LMark) : StrIn (ssOf l m) := by
  unfold ssOf
  by_cases h : dirErr l m = 0
  · rw [if_pos h]
    have hl := (book_ok (dir_two h).1).few
    have hm := marks_few (dir_two h).2
    refine ⟨?_, fun k hk => ?_⟩
    · rw [strL_len]; have := places_le m m.length (Nat.le_refl _); rw [List.take_length] at this; omega
    · obtain ⟨f, n, h1, h2, h3⟩ := strs_ok h k hk
      have := textL_le l
      exact ⟨f, n, h1, h2, by omega⟩
  · rw [if_neg h]
    exact ⟨by simp, fun k hk => by simp at hk⟩
def HitLoop (w : World) (ss : List LStr) (off f0 : Int) (f a b i : Value) (wr : World) : Prop :=
  ∃ (k : Nat) (f' a' b' : Int), k ≤ ss.length ∧ i = .int .i64 k ∧ f = .int .i64 f' ∧ a = .int .i64 a' ∧ b = .int .i64 b' ∧ Hid (HitSt ss off f0 k f' a' b') ∧ Hid (Below w.heap.size w wr)
def OfLoopL (w : World) (ss : List LStr) (p : ByteArray) (e2 : Int) (o i : Value) (wr : World) : Prop :=
  ∃ (k : Nat) (o' : Int), k ≤ ss.length ∧ i = .int .i64 k ∧ o = .int .i64 o' ∧ Hid ((e2 = 0 → OfSt ss p k o') ∧ (e2 ≠ 0 → o' = 0)) ∧ Hid (Below w.heap.size w wr)
set_option maxRecDepth 100000 in
set_option maxHeartbeats 8000000 in
theorem walk (w : World) (A A2 : Option Addr) (c c2 : Nat) (l : List LLeaf) (m : List LMark) (off i : Int) (p : ByteArray) (H : DirIn w A c l A2 c2 m) (hglob : Glob w)
    (ho0 : -9223372036854775808 ≤ off) (ho1 : off ≤ 9223372036854775807) (hi0 : -9223372036854775808 ≤ i) (hi1 : i ≤ 9223372036854775807) (hp : p.size ≤ 9223372036854775807) :
    Calls Tryd.prog 4 #[.slice A l.length c, .slice A2 m.length c2, .int .i64 off, .int .i64 i, .string p] w (CheckPost w (.bool true)) := by
  have HI := Lib.hid H
  have HBK := Lib.hid (rbook_any w A c l H.rl H.sl H.nl)
  have HMK := Lib.hid (fun W (hb : Below w.heap.size w W) => rmarks_any W A2 c2 m (H.below hb).rm H.sm H.nm)
  have HERR := Lib.hid (fun W (hb : Below w.heap.size w W) k => show Calls Tryd.prog 6 #[errV k, .int .i64 k] W (CheckPost W (.bool true)) by
    have := error_any W k k (hglob.below hb (Nat.le_refl _))
    rw [show (k == k) = true by simp] at this
    exact this)
  have HST := Lib.hid (fun W (hb : Below w.heap.size w W) => stretches_uni (H.below hb))
  have HRS := Lib.hid (fun W (hb : Below w.heap.size w W) h => rstretches_any (H.below hb) h)
  have HLO := Lib.hid (fun W (hb : Below w.heap.size w W) f a b h => locate_uni (f := f) (a := a) (b := b) (H.below hb) ⟨ho0, ho1⟩ h)
  have HSL := Lib.hid (fun W (hb : Below w.heap.size w W) => slice_uni (H.below hb) i)
  have HOF := Lib.hid (fun W (hb : Below w.heap.size w W) o h1 h0 => of_uni (o := o) (H.below hb) hp h1 h0)
  have HPL := Lib.hid (fun W => rplace_any W p hp)
  have HRT := Lib.hid (fun W (hb : Below w.heap.size w W) (h : dirErr l m = 0) => rtext_any W A c l (H.below hb).rl (book_ok (dir_two h).1).fit (by have := (book_ok (dir_two h).1).few; omega))
  have HSI := Lib.hid (str_in l m)
  have HEQ : Hid (dirErr l m = 0 → ssOf l m = strL l (places m)) := fun h => if_pos h
  have HEN : Hid (dirErr l m ≠ 0 → ssOf l m = []) := fun h => if_neg h
  have HDE : Hid (dirErr l m = if bookErr l ≠ 0 then bookErr l else marksErr m) := rfl
  clear H hglob
  go_enter Tryd.func4, Tryd.ntmps4
  go_wp2_with fail
  refine HBK.out.mono ?_
  rintro e w1 ⟨rfl, hb1⟩
  have HB1 := Lib.hid hb1
  clear hb1 HBK
  go_upto_if 34 with (fail)
  go_cut [11] (fun v wx => v = .int .i64 (dirErr l m) ∧ Below w.heap.size w wx)
  case first =>
    by_cases hb : bookErr l = 0
    · have e1 : (bookErr l == 0) = true := by simpa using hb
      have HD : Hid (dirErr l m = marksErr m) := by show _ = _; rw [HDE.out, if_neg (fun x => x hb)]
      have HM1 := Lib.hid (HMK.out w1 HB1.out)
      clear hb
      go_wp2_with fail
      refine HM1.out.mono ?_
      rintro e w2 ⟨rfl, hb2⟩
      have HB2 := Lib.hid (HB1.out.trans (hb2.mono HB1.out.size))
      clear hb2
      go_wp2_with fail
      go_meet
      case rel => exact ⟨by rw [HD.out], HB2.out⟩
    · have e1 : (bookErr l == 0) = false := by simpa using hb
      have HD : Hid (dirErr l m = bookErr l) := by show _ = _; rw [HDE.out, if_pos hb]
      clear hb
      go_wp2_with fail
      go_meet
      case rel => exact ⟨by rw [HD.out], HB1.out⟩
  case rest =>
    obtain ⟨rfl, hbc⟩ := hcut
    obtain ⟨w2, hw2⟩ : ∃ x : World, x = wc := ⟨_, rfl⟩
    subst hw2
    have HB2 := Lib.hid hbc
    clear hbc HB1 HMK HDE
    go_upto_if 38 with (fail)
    go_cut [12] (fun v wx => ∃ V cv, v = .slice V (ssOf l m).length cv ∧ Hid (Own wx w.heap.size 46 3 V (ssOf l m).length cv (scells (ssOf l m))) ∧ Below w.heap.size w wx)
    case first =>
      by_cases hd : dirErr l m = 0
      · have e1 : (dirErr l m == 0) = true := by simpa using hd
        have HS := Lib.hid (HRS.out w2 HB2.out hd)
        have HSS := Lib.hid (HEQ.out hd)
        clear hd
        go_wp2_with fail
        refine HS.out.mono ?_
        rintro e w3 ⟨V, cv, rfl, hO, hb3⟩
        have HO := Lib.hid (hO.mono HB2.out.size)
        have HB3 := Lib.hid (HB2.out.trans (hb3.mono HB2.out.size))
        clear hO hb3
        go_wp2_with fail
        go_meet
        case rel => exact ⟨V, cv, by rw [HSS.out], by rw [HSS.out]; exact HO, HB3.out⟩
      · have e1 : (dirErr l m == 0) = false := by simpa using hd
        have HSS := Lib.hid (HEN.out hd)
        clear hd
        go_wp2_with fail
        go_meet
        case rel => exact ⟨none, 0, by rw [HSS.out]; rfl, by rw [HSS.out]; exact Own.nil _ _ _ _, HB2.out⟩
    case rest =>
      obtain ⟨V, cv, rfl, HO3, hbc⟩ := hcut
      obtain ⟨w3, hw3⟩ : ∃ x : World, x = wc := ⟨_, rfl⟩
      subst hw3
      have HB3 := Lib.hid hbc
      have HST3 := Lib.hid (HST.out w3 hbc)
      obtain ⟨hsl, hsi⟩ := HSI.out
      have HSIN := Lib.hid hsi
      clear hbc HB2 HST HRS hsi
      go_wp2_with fail
      refine HST3.out.mono ?_
      rintro e w4 ⟨V2, cv2, rfl, hO, hb4⟩
      have HO4 := Lib.hid hO
      have HOA4 := Lib.hid (HO3.out.below hb4)
      have HB4 := Lib.hid (HB3.out.trans (hb4.mono HB3.out.size))
      have HE4 := Lib.hid (HERR.out w4 HB4.out (dirErr l m))
      clear hO hb4 HST3 HO3 HB3
      go_wp2_with fail
      refine HE4.out.mono ?_
      rintro e w5 ⟨rfl, hb5⟩
      have HSM := Lib.hid (SameStretches.any w5 V2 V cv2 cv (ssOf l m) (ssOf l m) (HO4.out.below hb5).reads (HOA4.out.below hb5).reads (by omega) (by omega))
      rw [decide_eq_true rfl] at HSM
      unfold SamePost at HSM
      have HO5 := Lib.hid (HOA4.out.below hb5)
      have HB5 := Lib.hid (HB4.out.trans (hb5.mono HB4.out.size))
      clear hb5 HE4 HO4 HOA4 HB4
      go_wp2_with fail
      refine HSM.out.mono ?_
      rintro e w6 ⟨rfl, hb6⟩
      have HO6 := Lib.hid (HO5.out.below hb6)
      have HB6 := Lib.hid (HB5.out.trans (hb6.mono HB5.out.size))
      clear hb6 HSM HO5 HB5
      obtain ⟨f0, hf0⟩ : ∃ f0 : Int, f0 = if dirErr l m = 0 then 1 else dirErr l m := ⟨_, rfl⟩
      have HF0 := Lib.hid hf0
      rw [← hf0] at HLO
      clear hf0
      go_upto_if 56 with (fail)
      go_cut [17] (fun v wx => v = .int .i64 f0 ∧ wx = w6)
      case first =>
        by_cases hd : dirErr l m = 0
        · have e1 : (dirErr l m == 0) = true := by simpa using hd
          have HF : Hid (f0 = 1) := by show _ = _; rw [HF0.out, if_pos hd]
          clear hd
          go_wp2_with fail
          go_meet
          case rel => exact ⟨by rw [HF.out], rfl⟩
        · have e1 : (dirErr l m == 0) = false := by simpa using hd
          have HF : Hid (f0 = dirErr l m) := by show _ = _; rw [HF0.out, if_neg hd]
          clear hd
          go_wp2_with fail
          go_meet
          case rel => exact ⟨by rw [HF.out], rfl⟩
      case rest =>
        obtain ⟨rfl, hwc⟩ := hcut
        rw [hwc]
        clear hwc
        go_upto_block 0 with (fail)
        go_cut [17, 18, 19] (fun f a b wx => ∃ f' a' b', f = .int .i64 f' ∧ a = .int .i64 a' ∧ b = .int .i64 b' ∧ Hid (HitSt (ssOf l m) off f0 (ssOf l m).length f' a' b') ∧ Below w6.heap.size w6 wx)
        case first =>
          generalize ssOf l m = ss at *
          go_wp2_with fail
          go_loopw [17, 18, 19, 20] (fun f a b i wr => HitLoop w6 ss off f0 f a b i wr) (fun _ _ _ i _ => ss.length - (intOf i).toNat)
          case atStart => exact ⟨0, f0, 0, 0, Nat.zero_le _, rfl, rfl, rfl, rfl, .inr ⟨fun j hj h => by omega, rfl, rfl, rfl⟩, Below.refl _ _⟩
          case round =>
            obtain ⟨k, f', a', b', hk, rfl, rfl, rfl, rfl, HH, HB⟩ := hrel
            have k0 : (0 : Int) ≤ (k : Int) := by omega
            by_cases hlt : k < ss.length
            · have k1 : (k : Int) < (ss.length : Int) := by omega
              obtain ⟨f, n, hf, hn, hfn⟩ := HSIN.out k hlt
              obtain ⟨ad, hA, _, d0, d1, d2⟩ := (HO6.out.below HB.out).reads.str hlt
              have HCL : Hid (∀ W, Below w6.heap.size w6 W → W.cell? ⟨(ad.add (k * 3)).block, (ad.add (k * 3)).off + 1, none⟩ = some (.int .i64 f)) := fun W hW => by
                obtain ⟨ad', hA', _, _, e1, _⟩ := (HO6.out.below hW).reads.str hlt
                rw [hA] at hA'
                injection hA' with hA'
                subst hA'
                rw [hf] at e1
                exact e1
              have HHT := Lib.hid (HH.out.hits hlt)
              have HGO := Lib.hid (HH.out.goes hlt)
              have HIF := Lib.hid (hit_iff ss[k] off)
              rw [hf] at d1 HHT HIF
              rw [hn] at d2 HIF
              subst hA
              generalize ss[k] = x at *
              clear hf hn
              have q2 : IntKind.i64.wrap ((f : Int) + (n : Int)) = (f : Int) + (n : Int) := IntWalk.i64_in _ (by omega)
              by_cases h1 : (f : Int) ≤ off
              · have g1 : decide (off ≥ (f : Int)) = true := decide_eq_true h1
                by_cases h2 : off < (f : Int) + (n : Int)
                · have g2 : decide (off < (f : Int) + (n : Int)) = true := decide_eq_true h2
                  have HF := Lib.hid (HHT.out (HIF.out.2 ⟨h1, by omega⟩))
                  have q3 : IntKind.i64.wrap (off - (f : Int)) = off - (f : Int) := IntWalk.i64_in _ (by omega)
                  clear HHT HGO HIF
                  go_wp2_with fail
                  go_quiet (fail)
                  have HB2 : Hid (Below w6.heap.size w6 (wr.drewN nq)) := below_drewN HB.out _
                  have d3 := HCL.out _ HB2.out
                  clear d0 d1 d2
                  go_wp2_with fail
                  go_roundw
                  case rel => exact ⟨k + 1, 0, k, off - (f : Int), by omega, by go_num, rfl, rfl, by first | rfl | rw [q3], HF, HB2⟩
                  case measure => simp [intOf]; omega
                · have g2 : decide (off < (f : Int) + (n : Int)) = false := decide_eq_false h2
                  have HF := Lib.hid (HGO.out (by rw [Bool.eq_false_iff]; exact fun h => by have := (HIF.out.1 h).2; omega))
                  clear HHT HGO HIF
                  go_wp2_with fail
                  go_quiet (fail)
                  go_wp2_with fail
                  go_roundw
                  case rel => exact ⟨k + 1, f', a', b', by omega, by go_num, rfl, rfl, rfl, HF, below_drewN HB.out _⟩
                  case measure => simp [intOf]; omega
              · have g1 : decide (off ≥ (f : Int)) = false := decide_eq_false h1
                have HF := Lib.hid (HGO.out (by rw [Bool.eq_false_iff]; exact fun h => by have := (HIF.out.1 h).1; omega))
                clear HHT HGO HIF
                go_wp2_with fail
                go_quiet (fail)
                go_wp2_with fail
                go_roundw
                case rel => exact ⟨k + 1, f', a', b', by omega, by go_num, rfl, rfl, rfl, HF, below_drewN HB.out _⟩
                case measure => simp [intOf]; omega
            · have k1 : ¬ (k : Int) < (ss.length : Int) := by omega
              obtain rfl : k = ss.length := by omega
              go_wp2_with fail
              go_meet
              case rel => exact ⟨f', a', b', rfl, rfl, rfl, HH, HB.out⟩
        case rest => as_aux_lemma =>
          obtain ⟨f1, a1, b1, rfl, rfl, rfl, HH, hbc⟩ := hcut
          obtain ⟨w7, hw7⟩ : ∃ x : World, x = wc := ⟨_, rfl⟩
          subst hw7
          have HB7 := Lib.hid (HB6.out.trans (hbc.mono HB6.out.size))
          have HO7 := Lib.hid (HO6.out.below hbc)
          have HL7 := Lib.hid (HLO.out w7 HB7.out f1 a1 b1 HH.out)
          clear hbc HLO HB6 HO6 HH HF0
          go_wp2_with fail
          refine HL7.out.mono ?_
          rintro e w8 ⟨rfl, hb8⟩
          have HB8 := Lib.hid (HB7.out.trans (hb8.mono HB7.out.size))
          have HO8 := Lib.hid (HO7.out.below hb8)
          have HE8 := Lib.hid (HERR.out w8 HB8.out f1)
          clear hb8 HL7 HB7 HO7
          go_wp2_with fail
          refine HE8.out.mono ?_
          rintro e w9 ⟨rfl, hb9⟩
          have HB9 := Lib.hid (HB8.out.trans (hb9.mono HB8.out.size))
          have HO9 := Lib.hid (HO8.out.below hb9)
          clear hb9 HE8 HB8 HO8
          obtain ⟨q, hq⟩ : ∃ q : Bool, q = (decide (dirErr l m = 0) && (decide (i < 0) || decide (((ssOf l m).length : Int) ≤ i))) := ⟨_, rfl⟩
          have HQ := Lib.hid hq
          clear hq
          go_upto_region 26 with (fail)
          go_cut [116] (fun v wx => v = .bool q ∧ wx = w9)
          case first => as_aux_lemma =>
            by_cases hd : dirErr l m = 0
            · have e1 : (dirErr l m == 0) = true := by simpa using hd
              by_cases h0 : i < 0
              · have hq : Hid (q = true) := by show _ = _; rw [HQ.out]; simp [hd, h0]
                clear hd
                go_wp2_with fail
                go_meet
                case rel => exact ⟨by rw [hq.out], rfl⟩
              · by_cases h1 : ((ssOf l m).length : Int) ≤ i
                · have hq : Hid (q = true) := by show _ = _; rw [HQ.out]; simp [hd, h1]
                  clear hd
                  go_wp2_with fail
                  go_meet
                  case rel => exact ⟨by rw [hq.out], rfl⟩
                · have hq : Hid (q = false) := by show _ = _; rw [HQ.out]; simp only [hd, h0, h1]; rfl
                  clear hd
                  go_wp2_with fail
                  go_meet
                  case rel => exact ⟨by rw [hq.out], rfl⟩
            · have e1 : (dirErr l m == 0) = false := by simpa using hd
              have hq : Hid (q = false) := by show _ = _; rw [HQ.out]; simp [hd]
              clear hd
              go_wp2_with fail
              go_meet
              case rel => exact ⟨by rw [hq.out], rfl⟩
          case' rest =>
            obtain ⟨rfl, hwc⟩ := hcut
            rw [hwc]
            clear hwc
            go_upto_if 116 with (fail)
          go_cut [17, 24] (fun f t wx => f = .int .i64 (sliceErr l m i) ∧ t = .string (sliceT l m i) ∧ Below w9.heap.size w9 wx)
          case first => as_aux_lemma =>
            have HBR : Hid (Below w9.heap.size w9 w9) := Below.refl _ _
            by_cases hd : dirErr l m = 0
            · have e1 : (dirErr l m == 0) = true := by simpa using hd
              have HSS := Lib.hid (HEQ.out hd)
              have HD := Lib.hid hd
              have HRT9 := Lib.hid (fun W hb => HRT.out W hb hd)
              clear hd
              by_cases hi : i < 0 ∨ ((ssOf l m).length : Int) ≤ i
              · have HSE : Hid (sliceErr l m i = 1) := by show _ = _; unfold sliceErr; rw [if_neg (fun x => x HD.out), ← HSS.out, if_pos hi]
                have HTE : Hid (sliceT l m i = ⟨#[]⟩) := by show _ = _; unfold sliceT; rw [HSE.out, if_neg (by decide)]
                by_cases h0 : i < 0
                · have g0 : decide (i < 0) = true := decide_eq_true h0
                  clear hi
                  obtain rfl : q = true := by rw [HQ.out]; simp [HD.out, h0]
                  go_wp2_with fail
                  go_meet
                  case rel => exact ⟨by rw [HSE.out], by rw [HTE.out], HBR.out⟩
                · have g0 : decide (i < 0) = false := decide_eq_false h0
                  have h1 : ((ssOf l m).length : Int) ≤ i := by omega
                  have g1 : decide (i ≥ ((ssOf l m).length : Int)) = true := decide_eq_true h1
                  clear hi
                  obtain rfl : q = true := by rw [HQ.out]; simp [HD.out, h1]
                  go_wp2_with fail
                  go_meet
                  case rel => exact ⟨by rw [HSE.out], by rw [HTE.out], HBR.out⟩
              · have HSE : Hid (sliceErr l m i = 0) := by show _ = _; unfold sliceErr; rw [if_neg (fun x => x HD.out), ← HSS.out, if_neg hi]
                obtain ⟨k, rfl⟩ : ∃ k : Nat, i = (k : Int) := ⟨i.toNat, by omega⟩
                have hk : k < (ssOf l m).length := by omega
                obtain ⟨f, n, hf, hn, hfn⟩ := HSIN.out k hk
                have HTE : Hid (sliceT l m k = (textOf l).extract f (f + n)) := by
                  show _ = _
                  unfold sliceT
                  have e : (strL l (places m)).getD (k : Int).toNat ⟨⟨#[]⟩, 0, 0⟩ = (ssOf l m)[k] := by
                    rw [← HSS.out, show ((k : Int).toNat) = k by omega, List.getD, List.getElem?_eq_getElem hk, Option.getD_some]
                  rw [HSE.out, if_pos rfl, e, hf, hn]
                  rfl
                have hbnd : f + n ≤ (textOf l).size := by
                  have hk2 : k < (strL l (places m)).length := by rw [← HSS.out]; exact hk
                  obtain ⟨f', n', hst⟩ := strs_ok HD.out k hk2
                  have e : (strL l (places m))[k] = (ssOf l m)[k] := by simp only [HSS.out]
                  have h3 := hst.in_
                  have h4 := hst.from_
                  have h5 := hst.long
                  rw [e] at h4 h5
                  rw [show (textOf l).size = (textL l).length from strOf_size _]
                  omega
                obtain ⟨ad, hA, _, _, d1, d2⟩ := HO9.out.reads.str hk
                have HCL : Hid (∀ W, Below w9.heap.size w9 W → W.cell? ⟨(ad.add (k * 3)).block, (ad.add (k * 3)).off + 1, none⟩ = some (.int .i64 f) ∧ W.cell? ⟨(ad.add (k * 3)).block, (ad.add (k * 3)).off + 2, none⟩ = some (.int .i64 n)) := fun W hW => by
                  obtain ⟨ad', hA', _, _, e1, e2⟩ := (HO9.out.below hW).reads.str hk
                  rw [hA] at hA'
                  injection hA' with hA'
                  subst hA'
                  rw [hf] at e1
                  rw [hn] at e2
                  exact ⟨e1, e2⟩
                rw [hf] at d1
                rw [hn] at d2
                subst hA
                have i0 : (0 : Int) ≤ (k : Int) := by omega
                have i1 : (k : Int) < ((ssOf l m).length : Int) := by omega
                have g0 : decide ((k : Int) < 0) = false := by simp
                have g1 : decide (((ssOf l m).length : Int) ≤ (k : Int)) = false := by simp; omega
                have g2 : decide ((k : Int) ≥ ((ssOf l m).length : Int)) = false := by simp; omega
                have HT9 := Lib.hid (HRT9.out w9.drew HB9.out.drew)
                generalize textOf l = tx at *
                have f0' : (0 : Int) ≤ (f : Int) := by omega
                have f1' : (f : Int) ≤ (f : Int) + (n : Int) := by omega
                have f2' : (f : Int) + (n : Int) ≤ (tx.size : Int) := by omega
                have hw : IntKind.i64.wrap ((f : Int) + (n : Int)) = (f : Int) + (n : Int) := IntWalk.i64_in _ (by omega)
                have t2 : ((f : Int) + (n : Int)).toNat = f + n := by omega
                have t1 : (f : Int).toNat = f := by omega
                obtain rfl : q = false := by rw [HQ.out, g0, g1]; simp
                clear hi hf hn
                go_wp2_with fail
                go_region_held3 (fun w' => w'.cell? ⟨(ad.add (k * 3)).block, (ad.add (k * 3)).off + 1, none⟩ = some (.int .i64 f) ∧ w'.cell? ⟨(ad.add (k * 3)).block, (ad.add (k * 3)).off + 2, none⟩ = some (.int .i64 n))
                  (first
                    | go_keep
                    | (refine ⟨?_, ?_⟩ <;> assumption))
                  (first
                    | (go_at_call 19; refine HT9.out.mono ?_; rintro e3 w10 ⟨rfl, hb2'⟩
                       have HBX := Lib.hid (HBR.out.drew.trans (hb2'.mono HBR.out.drew.size))
                       obtain ⟨k1, k2⟩ := HCL.out w10 HBX.out
                       clear hb2'))
                all_goals
                  go_wp2_with fail
                  go_meet
                  case rel => exact ⟨by rw [HSE.out, HD.out], by rw [HTE.out], HBX.out⟩
            · have e1 : (dirErr l m == 0) = false := by simpa using hd
              have HSE : Hid (sliceErr l m i = dirErr l m) := if_pos hd
              have HTE : Hid (sliceT l m i = ⟨#[]⟩) := by show _ = _; unfold sliceT; rw [HSE.out, if_neg hd]
              obtain rfl : q = false := by rw [HQ.out]; simp [hd]
              clear hd
              go_wp2_with fail
              go_meet
              case rel => exact ⟨by rw [HSE.out], by rw [HTE.out], HBR.out⟩
          case rest => as_aux_lemma =>
            obtain ⟨rfl, rfl, hbc⟩ := hcut
            obtain ⟨w10, hw10⟩ : ∃ x : World, x = wc := ⟨_, rfl⟩
            subst hw10
            have HB10 := Lib.hid (HB9.out.trans (hbc.mono HB9.out.size))
            have HO10 := Lib.hid (HO9.out.below hbc)
            have HS10 := Lib.hid (HSL.out w10 HB10.out)
            unfold SlicePost at HS10
            clear hbc HSL HB9 HO9 HRT
            generalize sliceT l m i = tx at *
            generalize sliceErr l m i = se at *
            go_wp2_with fail
            refine HS10.out.mono ?_
            rintro e w11 ⟨rfl, hb⟩
            have HB11 := Lib.hid (HB10.out.trans (hb.mono HB10.out.size))
            have HO11 := Lib.hid (HO10.out.below hb)
            have HE11 := Lib.hid (HERR.out w11 HB11.out se)
            clear hb HS10 HB10 HO10
            go_wp2_with fail
            refine HE11.out.mono ?_
            rintro e w12 ⟨rfl, hb⟩
            have HB12 := Lib.hid (HB11.out.trans (hb.mono HB11.out.size))
            have HO12 := Lib.hid (HO11.out.below hb)
            clear hb HE11 HB11 HO11
            obtain ⟨e2, he2⟩ : ∃ e2 : Int, e2 = if dirErr l m = 0 then placeErr p else dirErr l m := ⟨_, rfl⟩
            have HE2 := Lib.hid he2
            rw [← he2] at HOF
            clear he2
            go_upto_if 149 with (fail)
            go_cut [11] (fun v wx => v = .int .i64 e2 ∧ wx = w12)
            case first =>
              by_cases hd : dirErr l m = 0
              · have e1 : (dirErr l m == 0) = true := by simpa using hd
                have HF : Hid (e2 = placeErr p) := by show _ = _; rw [HE2.out, if_pos hd]
                have HP12 := Lib.hid (HPL.out w12)
                clear hd
                go_wp2_with fail
                refine HP12.out.mono ?_
                rintro e w13 ⟨rfl, hw⟩
                obtain rfl := hw.symm
                clear hw
                go_wp2_with fail
                go_meet
                case rel => exact ⟨by rw [HF.out], rfl⟩
              · have e1 : (dirErr l m == 0) = false := by simpa using hd
                have HF : Hid (e2 = dirErr l m) := by show _ = _; rw [HE2.out, if_neg hd]
                clear hd
                go_wp2_with fail
                go_meet
                case rel => exact ⟨by rw [HF.out], rfl⟩
            case rest => as_aux_lemma =>
              obtain ⟨rfl, hwc⟩ := hcut
              rw [hwc]
              clear hwc HE2 HEQ HEN HPL
              go_upto_block 2 with (fail)
              go_cut [27] (fun o wx => ∃ o', o = .int .i64 o' ∧ Hid ((e2 = 0 → OfSt (ssOf l m) p (ssOf l m).length o') ∧ (e2 ≠ 0 → o' = 0)) ∧ Below w12.heap.size w12 wx)
              case first =>
                generalize ssOf l m = ss at *
                go_wp2_with fail
                go_loopw [27, 28] (fun o i wr => OfLoopL w12 ss p e2 o i wr) (fun _ i _ => ss.length - (intOf i).toNat)
                case atStart => exact ⟨0, 0, Nat.zero_le _, rfl, rfl, ⟨fun _ => .inl ⟨rfl, fun j hj h => by omega⟩, fun _ => rfl⟩, Below.refl _ _⟩
                case round =>
                  obtain ⟨k, o', hk, rfl, rfl, HH, HB⟩ := hrel
                  have k0 : (0 : Int) ≤ (k : Int) := by omega
                  by_cases hlt : k < ss.length
                  · have k1 : (k : Int) < (ss.length : Int) := by omega
                    by_cases he : e2 = 0
                    · have e1 : (e2 == 0) = true := by simpa using he
                      have HHT := Lib.hid ((HH.out.1 he).hits hlt)
                      have HGO := Lib.hid ((HH.out.1 he).goes hlt)
                      have HZ := Lib.hid he
                      obtain ⟨ad, hA, _, d0, _⟩ := (HO12.out.below HB.out).reads.str hlt
                      subst hA
                      clear he
                      generalize ss[k].place = q at *
                      cases hq : Op.bytesLess p.toList q.toList with
                      | false =>
                        have HF := Lib.hid (HHT.out (by unfold ltP; rw [hq]; decide))
                        cases hpq : (q.toList == p.toList) with
                        | true =>
                          have hql : Op.bytesLess q.toList p.toList = false := by
                            have e : q.toList = p.toList := by simpa using hpq
                            rw [e]; exact less_irrefl' _
                          go_wp2_with fail
                          go_roundw
                          case rel => exact ⟨k + 1, k, by omega, by go_num, rfl, ⟨fun _ => HF.out, fun h => absurd HZ.out h⟩, HB⟩
                          case measure => simp [intOf]; omega
                        | false =>
                          have hql : Op.bytesLess q.toList p.toList = true := by
                            have e : ¬ q.toList = p.toList := by simpa using hpq
                            cases h : Op.bytesLess q.toList p.toList with
                            | true => rfl
                            | false => exact absurd hq (by rw [less_total' _ _ h e]; decide)
                          go_wp2_with fail
                          go_roundw
                          case rel => exact ⟨k + 1, k, by omega, by go_num, rfl, ⟨fun _ => HF.out, fun h => absurd HZ.out h⟩, HB⟩
                          case measure => simp [intOf]; omega
                      | true =>
                        have HF := Lib.hid (HGO.out hq)
                        have hql : Op.bytesLess q.toList p.toList = false := less_asymm' _ _ hq
                        have hpq : (q.toList == p.toList) = false := by
                          rw [beq_eq_false_iff_ne]
                          intro e
                          rw [e, less_irrefl'] at hq
                          cases hq
                        go_wp2_with fail
                        go_roundw
                        case rel => exact ⟨k + 1, o', by omega, by go_num, rfl, ⟨fun _ => HF.out, fun h => absurd HZ.out h⟩, HB⟩
                        case measure => simp [intOf]; omega
                    · have e1 : (e2 == 0) = false := by simpa using he
                      have HZ := Lib.hid he
                      clear he
                      go_wp2_with fail
                      go_meet
                      case rel => exact ⟨o', rfl, ⟨fun h => absurd h HZ.out, HH.out.2⟩, HB.out⟩
                  · have k1 : ¬ (k : Int) < (ss.length : Int) := by omega
                    obtain rfl : k = ss.length := by omega
                    go_wp2_with fail
                    go_meet
                    case rel => exact ⟨o', rfl, HH, HB.out⟩
              case rest => as_aux_lemma =>
                obtain ⟨o', rfl, HH, hbc⟩ := hcut
                obtain ⟨w13, hw13⟩ : ∃ x : World, x = wc := ⟨_, rfl⟩
                subst hw13
                have HB13 := Lib.hid (HB12.out.trans (hbc.mono HB12.out.size))
                have HF13 := Lib.hid (HOF.out w13 HB13.out o' HH.out.1 HH.out.2)
                clear hbc HOF HB12 HO12 HH
                go_wp2_with fail
                refine HF13.out.mono ?_
                rintro e w14 ⟨rfl, hb⟩
                have HB14 := Lib.hid (HB13.out.trans (hb.mono HB13.out.size))
                have HE14 := Lib.hid (HERR.out w14 HB14.out e2)
                clear hb HF13 HB13
                go_wp2_with fail
                refine HE14.out.mono ?_
                rintro e w15 ⟨rfl, hb⟩
                have HB15 := Lib.hid (HB14.out.trans (hb.mono HB14.out.size))
                have j1 : (a1 == a1) = true := by simp
                have j2 : (b1 == b1) = true := by simp
                have j3 : (tx.toList == tx.toList) = true := by simp
                have j4 : (o' == o') = true := by simp
                clear hb HE14 HB14
                go_wp2_with fail
                go_ret
                exact ⟨rfl, HB15.out⟩
end lawDirTells
end Go.Proofs.YteiadcdaleckjaaDoor

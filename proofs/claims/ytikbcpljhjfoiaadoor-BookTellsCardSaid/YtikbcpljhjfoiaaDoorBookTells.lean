/- Of any book what is wrong, what is seen, where; written, and struck: the law BookTells answers true. Conditions: the library's one variable holds what its text lays (the card ties it). -/
import Derived.Test.YtikbcpljhjfoiaaDoorRefBook
import Derived.Test.YtikbcpljhjfoiaaDoorRefWrite
import Derived.Test.YtikbcpljhjfoiaaDoorSameLeafs
import Derived.Test.YtikbcpljhjfoiaaDoorOpenDir
import Derived.Test.YtikbcpljhjfoiaaDoorCard
namespace Go.Proofs.YtikbcpljhjfoiaaDoor
open Go.RowKit Go.WideShapes Go.ChangeShapes Go.ChangeAt
set_option linter.unusedVariables false
namespace lawBookTells
theorem bookErr_ready {l : List LLeaf} {p : ByteArray} (h : bookErr l = 0) : bookReady l p = placeErr p := if_neg (fun x => x h)
theorem reads_take {w : World} {B : Nat} {A : Option Addr} {l : List LLeaf} {i : Nat} (hi : i ≤ l.length) (h : Reads w B 3 A l.length (lcells l)) : Reads w B 3 A (l.take i).length (lcells (l.take i)) := by
  have h2 : (l.take i).length = i := by rw [List.length_take]; omega
  rw [h2]
  refine ⟨by rw [lcells_len, h2], fun hn => ?_⟩
  obtain ⟨ad, e, hb1, hcc⟩ := h.2 (by omega)
  refine ⟨ad, e, hb1, fun j u hj => hcc j u ?_⟩
  rw [← lcells_take, List.getElem?_take] at hj
  split at hj
  · exact hj
  · cases hj
theorem atErr_ok {l : List LLeaf} {off : Int} (h : bookErr l = 0) : atErr l off = if off < 0 ∨ nthFrom 0 l off < 0 then 1 else 0 := if_neg (fun x => x h)
def atVal (l : List LLeaf) (off : Int) : Int := if atErr l off = 0 then nthFrom 0 l off else 0
def seenTx (l : List LLeaf) : ByteArray := if bookErr l = 0 then textOf l else ⟨#[]⟩
theorem writeErr_bad {l : List LLeaf} {p : ByteArray} {n : Int} (h : bookReady l p ≠ 0) : writeErr l p n = bookReady l p := if_pos h
theorem strikeErr_bad {l : List LLeaf} {p : ByteArray} (h : bookReady l p ≠ 0) : strikeErr l p = bookReady l p := if_pos h
theorem beq_self (k : Int) : (k == k) = true := by simp
theorem give_len (l : List LLeaf) (p : ByteArray) (n : Int) (hl : l.length ≤ 300 ∨ writeErr l p n ≠ 0) : (giveL (writeErr l p n) (writeRes l p n)).length ≤ 301 := by
  unfold giveL
  split
  · next h =>
    rcases hl with hl | hl
    · unfold writeRes
      split
      · rw [List.length_set]; omega
      · rw [bookPut_len _ _ _ (ahead_le _ _)]; omega
    · exact absurd h hl
  · simp
theorem gives_len (l : List LLeaf) (p : ByteArray) (hl : l.length ≤ 300 ∨ strikeErr l p ≠ 0) : (giveL (strikeErr l p) (strikeRes l p)).length ≤ 301 := by
  unfold giveL
  split
  · next h =>
    rcases hl with hl | hl
    · unfold strikeRes
      split
      · rw [List.length_set]; omega
      · rw [bookPut_len _ _ _ (ahead_le _ _)]; omega
    · exact absurd h hl
  · simp
theorem few_ready {l : List LLeaf} {p : ByteArray} : l.length ≤ 300 ∨ bookReady l p ≠ 0 := by
  by_cases h : bookReady l p = 0
  · exact .inl (bready_ok h).1.few
  · exact .inr h
set_option maxRecDepth 100000 in
set_option maxHeartbeats 8000000 in
theorem walk (w : World) (A : Option Addr) (c : Nat) (l : List LLeaf) (p : ByteArray) (off n : Int) (hg : Glob w) (h : Reads w w.heap.size 3 A l.length (lcells l)) (hs : Sized l) (hc : l.length ≤ c) (hcm : c ≤ 9223372036854775807)
    (hp : p.size ≤ 9223372036854775807) (ho : off ≤ 9223372036854775807) :
    Calls Tryd.prog 10 #[.slice A l.length c, .string p, .int .i64 off, .int .i64 n] w (CheckPost w (.bool true)) := by
  have HR : Hid (∀ W, Below w.heap.size w W → Reads W W.heap.size 3 A l.length (lcells l)) := fun W hb => (h.below hb).more hb.size
  have KE := Lib.hid (fun W (hb : Below w.heap.size w W) k e => error_any W k e (hg.below hb (Nat.le_refl _)))
  have KRB := Lib.hid (fun W (hb : Below w.heap.size w W) => rbook_any W A c l (HR.out W hb) hs (by omega))
  have KBC := Lib.hid (fun W (hb : Below w.heap.size w W) => bookCheck_any W A c l (HR.out W hb) hs (by omega))
  have KT := Lib.hid (fun W (hb : Below w.heap.size w W) => text_any W A c l (HR.out W hb) hs (by omega))
  have KA := Lib.hid (fun W (hb : Below w.heap.size w W) => at_any W A c l off (HR.out W hb) hs (by omega) ho)
  have KO := Lib.hid (fun W (hb : Below w.heap.size w W) => offset_any W A c l p (HR.out W hb) hs hc hcm hp)
  have KW := Lib.hid (fun W (hb : Below w.heap.size w W) => write_any W A c l p n (HR.out W hb) hs (by omega) hp)
  have KS := Lib.hid (fun W (hb : Below w.heap.size w W) => strike_any W A c l p (HR.out W hb) hs (by omega) hp)
  have KRP := Lib.hid (fun W => rplace_any W p hp)
  have KRT := Lib.hid (fun W (hb : Below w.heap.size w W) (he : bookErr l = 0) => rtext_any W A c l (HR.out W hb) (book_ok he).fit (by have := (book_ok he).few; omega))
  have KRN := Lib.hid (fun W (hb : Below w.heap.size w W) (he : bookErr l = 0) (h0 : 0 ≤ off) => rnth_any W A c l off (HR.out W hb) (by have := (book_ok he).few; omega) h0)
  have KRA := Lib.hid (fun W (hb : Below w.heap.size w W) (he : BookOk l) => rahead_any W A c l p (HR.out W hb) (by have := he.few; omega) he.rising)
  have KRK := Lib.hid (fun W (hb : Below w.heap.size w W) (he : BookOk l) => rtext_any W A c (l.take (ahead l p)) (reads_take (ahead_le l p) (HR.out W hb)) (he.fit.sub (fun x hx => List.mem_of_mem_take hx)) (by rw [List.length_take]; have := he.few; omega))
  have KF := Lib.hid (fun W (hb : Below w.heap.size w W) (he : BookOk l) => find_any W A c l p (HR.out W hb) (by have := he.few; omega) he.rising)
  have KRW := Lib.hid (fun W (hb : Below w.heap.size w W) (he : BookOk l) => rwrite_any W A c l p n (HR.out W hb) he hc hcm)
  have KRS := Lib.hid (fun W (hb : Below w.heap.size w W) (he : BookOk l) => rstrike_any W A c l p (HR.out W hb) he hc hcm)
  have HC := Lib.hid hc
  have HCM := Lib.hid hcm
  have HB0 : Hid (Below w.heap.size w w) := Below.refl _ _
  clear h hs hg hc hcm ho hp
  go_enter Tryd.func10, Tryd.ntmps10
  go_wp2_with fail
  refine (KRB.out _ HB0.out).mono ?_
  rintro e w1 ⟨rfl, hb1⟩
  have HB1 := Lib.hid hb1
  clear hb1
  go_wp2_with fail
  refine (KBC.out _ HB1.out).mono ?_
  rintro e w2 ⟨rfl, hb2⟩
  have HB2 := Lib.hid (HB1.out.trans (hb2.mono HB1.out.size))
  clear hb2
  go_wp2_with fail
  refine (KE.out _ HB2.out _ _).mono ?_
  rintro e w3 ⟨rfl, hb3⟩
  rw [beq_self]
  have HB3 := Lib.hid (HB2.out.trans (hb3.mono HB2.out.size))
  clear hb3
  clear HB0 HB1 HB2
  go_upto_if 39 with (fail)
  go_cut [11, 12, 13] (fun a b c wx => a = .string (seenTx l) ∧ b = .int .i64 (atErr l off) ∧ c = .int .i64 (atVal l off) ∧ Hid (Below w.heap.size w wx))
  case first => as_aux_lemma =>
    by_cases he : bookErr l = 0
    · have HE := Lib.hid he
      have HTX : Hid (seenTx l = textOf l) := if_pos he
      have HAE := Lib.hid (atErr_ok (off := off) he)
      have g0 : (bookErr l == 0) = true := by rw [beq_iff_eq]; exact he
      clear he
      go_wp2_with fail
      refine (KRT.out _ HB3.out HE.out).mono ?_
      rintro e w4 ⟨rfl, hb4⟩
      have HB4 := Lib.hid (HB3.out.trans (hb4.mono HB3.out.size))
      clear hb4
      by_cases h0 : 0 ≤ off
      · have g1 : decide (off ≥ 0) = true := decide_eq_true h0
        have HN := Lib.hid (KRN.out _ HB4.out HE.out h0)
        go_wp2_with fail
        refine HN.out.mono ?_
        rintro e w5 ⟨rfl, hb5⟩
        have HB5 := Lib.hid (HB4.out.trans (hb5.mono HB4.out.size))
        clear hb5
        by_cases h1 : nthFrom 0 l off < 0
        · have HF : Hid (atErr l off = 1) := by show _ = _; rw [HAE.out, if_pos (.inr h1)]
          have HV : Hid (atVal l off = 0) := by show _ = _; unfold atVal; rw [HF.out, if_neg (by decide)]
          clear HAE
          generalize nthFrom 0 l off = q at *
          go_wp2_with fail
          go_meet
          case rel => exact ⟨by rw [HTX.out], by rw [HF.out], by rw [HV.out], HB5⟩
        · have HF : Hid (atErr l off = 0) := by show _ = _; rw [HAE.out, if_neg (by omega)]
          have HV : Hid (atVal l off = nthFrom 0 l off) := by show _ = _; unfold atVal; rw [HF.out, if_pos rfl]
          clear HAE
          generalize nthFrom 0 l off = q at *
          go_wp2_with fail
          go_meet
          case rel => exact ⟨by rw [HTX.out], by rw [HF.out], by rw [HV.out], HB5⟩
      · have HF : Hid (atErr l off = 1) := by show _ = _; rw [HAE.out, if_pos (.inl (by omega))]
        have HV : Hid (atVal l off = 0) := by show _ = _; unfold atVal; rw [HF.out, if_neg (by decide)]
        have g1 : decide (off ≥ 0) = false := decide_eq_false h0
        clear HAE
        go_wp2_with fail
        go_meet
        case rel => exact ⟨by rw [HTX.out], by rw [HF.out], by rw [HV.out], HB4⟩
    · have HTX : Hid (seenTx l = ⟨#[]⟩) := if_neg he
      have HF : Hid (atErr l off = bookErr l) := if_pos he
      have HV : Hid (atVal l off = 0) := by show _ = _; unfold atVal; rw [HF.out, if_neg he]
      have g0 : (bookErr l == 0) = false := by rw [beq_eq_false_iff_ne]; exact he
      clear he
      go_wp2_with fail
      go_meet
      case rel => exact ⟨by rw [HTX.out], by rw [HF.out], by rw [HV.out], HB3⟩
  case rest => as_aux_lemma =>
    obtain ⟨rfl, rfl, rfl, HBc⟩ := hcut
    clear HB3
    go_wp2_with fail
    refine (KT.out _ HBc.out).mono ?_
    rintro e w4 ⟨rfl, hb4⟩
    rw [show (if bookErr l = 0 then textOf l else ⟨#[]⟩) = seenTx l from rfl]
    have HB4 := Lib.hid (HBc.out.trans (hb4.mono HBc.out.size))
    clear hb4 HBc
    go_wp2_with fail
    refine (KE.out _ HB4.out _ _).mono ?_
    rintro e w5 ⟨rfl, hb5⟩
    rw [beq_self]
    have HB5 := Lib.hid (HB4.out.trans (hb5.mono HB4.out.size))
    clear hb5 HB4
    go_wp2_with fail
    refine (KA.out _ HB5.out).mono ?_
    rintro e w6 ⟨rfl, hb6⟩
    rw [show (if atErr l off = 0 then nthFrom 0 l off else 0) = atVal l off from rfl]
    have HB6 := Lib.hid (HB5.out.trans (hb6.mono HB5.out.size))
    clear hb6 HB5
    go_wp2_with fail
    refine (KE.out _ HB6.out _ _).mono ?_
    rintro e w7 ⟨rfl, hb7⟩
    rw [beq_self]
    have HB7 := Lib.hid (HB6.out.trans (hb7.mono HB6.out.size))
    clear hb7 HB6
    go_upto_if 67 with (fail)
    go_cut [9] (fun a wx => a = .int .i64 (bookReady l p) ∧ Hid (Below w.heap.size w wx))
    case first => as_aux_lemma =>
      by_cases he : bookErr l = 0
      · have HF := Lib.hid (bookErr_ready (p := p) he)
        have g0 : (bookErr l == 0) = true := by rw [beq_iff_eq]; exact he
        clear he
        go_wp2_with fail
        refine (KRP.out _).mono ?_
        rintro e w8 ⟨rfl, rfl⟩
        go_wp2_with fail
        go_meet
        case rel => exact ⟨by rw [HF.out], HB7⟩
      · have HF : Hid (bookReady l p = bookErr l) := if_pos he
        have g0 : (bookErr l == 0) = false := by rw [beq_eq_false_iff_ne]; exact he
        clear he
        go_wp2_with fail
        go_meet
        case rel => exact ⟨by rw [HF.out], HB7⟩
    case rest => as_aux_lemma =>
      obtain ⟨rfl, HBc⟩ := hcut
      clear HB7
      go_upto_if 71 with (fail)
      go_cut [19] (fun a wx => a = .int .i64 (offOf l p) ∧ Hid (Below w.heap.size w wx))
      case first => as_aux_lemma =>
        by_cases he : bookReady l p = 0
        · have OK := Lib.hid (bready_ok he).1
          have HOF : Hid (offOf l p = ((textOf (l.take (ahead l p))).size : Int)) := if_pos he
          have g0 : (bookReady l p == 0) = true := by rw [beq_iff_eq]; exact he
          have hl : (l.take (ahead l p)).length = ahead l p := by rw [List.length_take]; have := ahead_le l p; omega
          rw [hl] at KRK
          have hal := ahead_le l p
          have hcl := HC.out
          have hcm := HCM.out
          have HLF : Hid (hasAt l p = true → ∀ W, Below w.heap.size w W → ∃ ad, A = some ad ∧ ahead l p < l.length ∧ W.cell? (ad.add (ahead l p * 3)) = some (.string p)) := fun hh W hb => by
            have hlt := hasAt_lt hh
            obtain ⟨ad, e, _, c0, _, _⟩ := (HR.out W hb).leaf hlt
            refine ⟨ad, e, hlt, ?_⟩
            rw [c0]
            obtain ⟨hi, h1, h2⟩ := leafAt_has hh
            rw [h1] at h2
            rw [h2]
          have HLN : Hid (hasAt l p = false → ahead l p < l.length → ∀ W, Below w.heap.size w W → ∃ ad q, A = some ad ∧ (q.toList == p.toList) = false ∧ W.cell? (ad.add (ahead l p * 3)) = some (.string q)) := fun hh hlt W hb => by
            obtain ⟨ad, e, _, c0, _, _⟩ := (HR.out W hb).leaf hlt
            refine ⟨ad, _, e, ?_, c0⟩
            unfold hasAt at hh
            rw [List.getElem?_eq_getElem hlt] at hh
            exact hh
          clear he hl
          go_wp2_with fail
          refine (KRA.out _ HBc.out OK.out).mono ?_
          rintro e w8 ⟨rfl, rfl⟩
          generalize hai : ahead l p = i at *
          have HAI := Lib.hid hai
          clear hai
          have i0 : (0 : Int) ≤ (i : Int) := by omega
          have i1 : (i : Int) ≤ (c : Int) := by omega
          go_wp2_with fail
          refine (KRK.out _ HBc.out OK.out).mono ?_
          rintro e w8 ⟨rfl, hb8⟩
          have HB8 := Lib.hid (HBc.out.trans (hb8.mono HBc.out.size))
          clear hb8 HBc
          go_wp2_with fail
          refine (KF.out _ HB8.out OK.out).mono ?_
          rintro e w9 ⟨rfl, hb9⟩
          rw [HAI.out]
          have HB9 := Lib.hid (HB8.out.trans (hb9.mono HB8.out.size))
          clear hb9 HB8
          have g2 : ((i : Int) != (i : Int)) = false := by simp
          cases hh : hasAt l p with
          | true =>
            obtain ⟨ad, rfl, hlt, c0⟩ := HLF.out hh _ HB9.out
            have g3 : decide ((i : Int) < (l.length : Int)) = true := decide_eq_true (by omega)
            have i2 : (i : Int) < (l.length : Int) := by omega
            have g4 : (p.toList == p.toList) = true := by simp
            clear hlt hh
            go_wp2_with fail
            go_meet
            case rel => exact ⟨by rw [HOF.out], HB9⟩
          | false =>
            by_cases hlt : i < l.length
            · obtain ⟨ad, q, rfl, g4, c0⟩ := HLN.out hh hlt _ HB9.out
              have g3 : decide ((i : Int) < (l.length : Int)) = true := decide_eq_true (by omega)
              have i2 : (i : Int) < (l.length : Int) := by omega
              clear hlt hh
              go_wp2_with fail
              go_meet
              case rel => exact ⟨by rw [HOF.out], HB9⟩
            · have g3 : decide ((i : Int) < (l.length : Int)) = false := decide_eq_false (by omega)
              have g5 : decide (i < l.length) = false := decide_eq_false hlt
              clear hlt hh
              go_wp2_with fail
              go_meet
              case rel => exact ⟨by rw [HOF.out], HB9⟩
        · have HOF : Hid (offOf l p = 0) := if_neg he
          have g0 : (bookReady l p == 0) = false := by rw [beq_eq_false_iff_ne]; exact he
          clear he
          go_wp2_with fail
          go_meet
          case rel => exact ⟨by rw [HOF.out], HBc⟩
      case rest => as_aux_lemma =>
        obtain ⟨rfl, HBd⟩ := hcut
        clear HBc
        go_wp2_with fail
        refine (KO.out _ HBd.out).mono ?_
        rintro e w10 ⟨rfl, hb10⟩
        have HB10 := Lib.hid (HBd.out.trans (hb10.mono HBd.out.size))
        clear hb10 HBd
        go_wp2_with fail
        refine (KE.out _ HB10.out _ _).mono ?_
        rintro e w11 ⟨rfl, hb11⟩
        rw [beq_self]
        have HB11 := Lib.hid (HB10.out.trans (hb11.mono HB10.out.size))
        clear hb11 HB10
        go_upto_if 117 with (fail)
        go_cut [25, 12] (fun a b wx => ∃ V cv, a = .slice V (giveL (writeErr l p n) (writeRes l p n)).length cv ∧ b = .int .i64 (writeErr l p n) ∧ Hid (Reads wx wx.heap.size 3 V (giveL (writeErr l p n) (writeRes l p n)).length (lcells (giveL (writeErr l p n) (writeRes l p n)))) ∧ Hid (Below w.heap.size w wx))
        case first => as_aux_lemma =>
          by_cases he : bookReady l p = 0
          · have OK := Lib.hid (bready_ok he).1
            have HF := Lib.hid (writeErr_ready he n)
            have g0 : (bookReady l p == 0) = true := by rw [beq_iff_eq]; exact he
            clear he
            go_wp2_with fail
            refine (KRW.out _ HB11.out OK.out).mono ?_
            rintro e w12 ⟨V, cv, rfl, hO, hb12⟩
            rw [← HF.out] at hO ⊢
            have HO := Lib.hid hO.reads
            have HB12 := Lib.hid (HB11.out.trans (hb12.mono HB11.out.size))
            clear hb12 hO
            go_wp2_with fail
            go_meet
            case rel => exact ⟨V, cv, rfl, rfl, HO, HB12⟩
          · have HF := Lib.hid (writeErr_bad (n := n) he)
            have HG : Hid (giveL (writeErr l p n) (writeRes l p n) = []) := giveL_bad (by rw [HF.out]; exact he) _
            have g0 : (bookReady l p == 0) = false := by rw [beq_eq_false_iff_ne]; exact he
            clear he
            go_wp2_with fail
            go_meet
            case rel => exact ⟨none, 0, by rw [HG.out]; rfl, by rw [HF.out], by rw [HG.out]; exact Reads.none_, HB11⟩
        case rest => as_aux_lemma =>
          obtain ⟨V, cv, rfl, rfl, HO, HBe⟩ := hcut
          clear HB11
          have HLE : Hid ((giveL (writeErr l p n) (writeRes l p n)).length ≤ 301) := give_len l p n (by
            rcases few_ready (l := l) (p := p) with h | h
            · exact .inl h
            · exact .inr (by rw [writeErr_bad h]; exact h))
          generalize giveL (writeErr l p n) (writeRes l p n) = X at *
          go_wp2_with fail
          refine (KW.out _ HBe.out).mono ?_
          rintro e w12 ⟨V2, cv2, rfl, hO, hb12⟩
          have HO2 := Lib.hid hO.reads
          have HO1 := Lib.hid ((HO.out.below hb12).more hb12.size)
          have HB12 := Lib.hid (HBe.out.trans (hb12.mono HBe.out.size))
          clear hb12 hO HO HBe
          go_wp2_with fail
          refine (KE.out _ HB12.out _ _).mono ?_
          rintro e w13 ⟨rfl, hb13⟩
          rw [beq_self]
          have HO3 := Lib.hid ((HO2.out.below hb13).more hb13.size)
          have HO4 := Lib.hid ((HO1.out.below hb13).more hb13.size)
          have HB13 := Lib.hid (HB12.out.trans (hb13.mono HB12.out.size))
          clear hb13 HB12 HO1 HO2
          go_wp2_with fail
          refine (SameLeafs.any _ V2 V cv2 cv X X HO3.out HO4.out (by have := HLE.out; omega) (by have := HLE.out; omega)).mono ?_
          rintro e w14 ⟨rfl, hb14⟩
          rw [decide_eq_true (show X = X from rfl)]
          have HB14 := Lib.hid (HB13.out.trans (hb14.mono HB13.out.size))
          clear hb14 HB13 HO3 HO4 HLE
          go_upto_if 139 with (fail)
          go_cut [25, 9] (fun a b wx => ∃ V cv, a = .slice V (giveL (strikeErr l p) (strikeRes l p)).length cv ∧ b = .int .i64 (strikeErr l p) ∧ Hid (Reads wx wx.heap.size 3 V (giveL (strikeErr l p) (strikeRes l p)).length (lcells (giveL (strikeErr l p) (strikeRes l p)))) ∧ Hid (Below w.heap.size w wx))
          case first => as_aux_lemma =>
            by_cases he : bookReady l p = 0
            · have OK := Lib.hid (bready_ok he).1
              have HF := Lib.hid (strikeErr_ready he)
              have g0 : (bookReady l p == 0) = true := by rw [beq_iff_eq]; exact he
              clear he
              go_wp2_with fail
              refine (KRS.out _ HB14.out OK.out).mono ?_
              rintro e w15 ⟨V, cv, rfl, hO, hb15⟩
              rw [← HF.out] at hO ⊢
              have HO := Lib.hid hO.reads
              have HB15 := Lib.hid (HB14.out.trans (hb15.mono HB14.out.size))
              clear hb15 hO
              go_wp2_with fail
              go_meet
              case rel => exact ⟨V, cv, rfl, rfl, HO, HB15⟩
            · have HF := Lib.hid (strikeErr_bad he)
              have HG : Hid (giveL (strikeErr l p) (strikeRes l p) = []) := giveL_bad (by rw [HF.out]; exact he) _
              have g0 : (bookReady l p == 0) = false := by rw [beq_eq_false_iff_ne]; exact he
              clear he
              go_wp2_with fail
              go_meet
              case rel => exact ⟨none, 0, by rw [HG.out]; rfl, by rw [HF.out], by rw [HG.out]; exact Reads.none_, HB14⟩
          case rest => as_aux_lemma =>
            obtain ⟨V, cv, rfl, rfl, HO, HBe⟩ := hcut
            clear HB14
            have HLE : Hid ((giveL (strikeErr l p) (strikeRes l p)).length ≤ 301) := gives_len l p (by
              rcases few_ready (l := l) (p := p) with h | h
              · exact .inl h
              · exact .inr (by rw [strikeErr_bad h]; exact h))
            generalize giveL (strikeErr l p) (strikeRes l p) = Y at *
            go_wp2_with fail
            refine (KS.out _ HBe.out).mono ?_
            rintro e w15 ⟨V2, cv2, rfl, hO, hb15⟩
            have HO2 := Lib.hid hO.reads
            have HO1 := Lib.hid ((HO.out.below hb15).more hb15.size)
            have HB15 := Lib.hid (HBe.out.trans (hb15.mono HBe.out.size))
            clear hb15 hO HO HBe
            go_wp2_with fail
            refine (KE.out _ HB15.out _ _).mono ?_
            rintro e w16 ⟨rfl, hb16⟩
            rw [beq_self]
            have HO3 := Lib.hid ((HO2.out.below hb16).more hb16.size)
            have HO4 := Lib.hid ((HO1.out.below hb16).more hb16.size)
            have HB16 := Lib.hid (HB15.out.trans (hb16.mono HB15.out.size))
            clear hb16 HB15 HO1 HO2
            go_wp2_with fail
            refine (SameLeafs.any _ V2 V cv2 cv Y Y HO3.out HO4.out (by have := HLE.out; omega) (by have := HLE.out; omega)).mono ?_
            rintro e w17 ⟨rfl, hb17⟩
            rw [decide_eq_true (show Y = Y from rfl)]
            have HB17 := Lib.hid (HB16.out.trans (hb17.mono HB16.out.size))
            clear hb17 HB16 HO3 HO4 HLE
            have e1 : ((seenTx l).toList == (seenTx l).toList) = true := by simp
            have e2 : (atVal l off == atVal l off) = true := by simp
            have e3 : (offOf l p == offOf l p) = true := by simp
            go_wp2_with fail
            go_ret
            exact ⟨rfl, HB17.out⟩
set_option maxRecDepth 100000 in
theorem lifted (os : Os) (started : os.Started) (H : Type) (enc : TypeId × Value → H) :
    ReturnsInHanded {} Tryd.checked os 10 .any (fun w args => (Rows.bookTellsSpec.pre enc Tryd.prog Tryd.f10 [] false w args ∧ laidMetH Tryd.prog Card.laid w) ∧ sizedMet enc Tryd.prog Tryd.f10 (OpenSpec.ofChange Rows.bookTellsSpec) false w args)
      (Rows.bookTellsSpec.post enc Tryd.prog Tryd.f10 false true false false) := by
  refine returnsInHanded_of_change_and (C := Tryd.checked) (X := fun w _ => laidMetH Tryd.prog Card.laid w) (fun _ _ _ hh h => h.of_heap hh) Tryd.own started (by kernel_rfl) Tryd.func10
    (ChangeSpec.witness_at (enc := enc) (C := Tryd.checked) (os := os) (X := fun w _ => laidMetH Tryd.prog Card.laid w) false (Card.laidWorld os) #[.slice none 0 0, .string ⟨#[]⟩, .int .i64 0, .int .i64 0] 8 rfl (by kernel_rfl) (by kernel_rfl) (by kernel_rfl) (by kernel_rfl) (by kernel_rfl) (Card.laidWorld_met os _)) ?_
  intro W base args ds gs before hval0 hW _ hsz0 hL _
  have hval : ∀ (j : Nat) t v, Tryd.f10.params[j]? = some t → args[j]? = some v → Value.okWide Tryd.prog W .any base t v := hval0
  obtain ⟨p, q, hA0, _⟩ := id hW
  have hA : DataW.TrodAll enc Tryd.prog W 0 (fun _ => true) true Tryd.f10.params.toList args.toList ds p := hA0
  have hsz : (DataW.weightsEach Tryd.prog (Tryd.f10.params.toList ++ Rows.bookTellsSpec.plain.varTypes Tryd.prog) (ds ++ gs)).all (· ≤ reachBytes) = true := hsz0
  rw [Tryd.params10] at hA hval hsz
  obtain ⟨v0, v1, v2, v3, d0, d1, d2, d3, p0, p1, p2, p3, rfl, rfl, rfl, h0, h1, h2, h3⟩ := trodAll_four hA
  obtain ⟨A0, c0, l0, rfl, r0, g0, lc0, cm0⟩ := arg_leafs (hval 0 22 v0 rfl rfl) h0
  obtain ⟨a1, rfl, rfl, rfl, wa1⟩ := Go.ChangeMaps.open_string Tryd.underlying9 (hval 1 9 v1 rfl rfl) h1
  obtain ⟨a2, rfl, rfl, rfl, wa2⟩ := open_int Tryd.underlying3 (hval 2 3 v2 rfl rfl) h2
  obtain ⟨a3, rfl, rfl, rfl, wa3⟩ := open_int Tryd.underlying3 (hval 3 3 v3 rfl rfl) h3
  refine (walk W A0 c0 l0 a1 a2 a3 (Card.glob_of_laid hL) r0 (fun x hx => by have := (g0 x hx).1; unfold maxLen at this; omega) lc0 (by unfold maxLen at cm0; omega) (by unfold maxLen at wa1; exact wa1) (i64_of_wf wa2).2).mono fun e W' ⟨he, hb⟩ => ⟨_, he, ?_⟩
  exact law_post Tryd.laidOut (tb := 4) (by kernel_rfl) Tryd.underlying4 (by rw [Tryd.params10]; simp only [List.mem_cons, List.not_mem_nil, or_false]; rintro t (rfl | rfl | rfl | rfl) <;> exact ⟨by kernel_rfl, of_decide_eq_true (by kernel_rfl)⟩) rfl rfl hW hb

theorem holds : Rows.BookTellsSaid :=
  OpenClaim.holds_of_wide 10 Tryd.f10 rfl rfl rfl rfl rfl rfl rfl ⟨rfl, rfl, rfl, rfl, rfl⟩ rfl rfl rfl rfl rfl (by kernel_rfl) Tryd.func10 (by kernel_rfl)
    (of_decide_eq_true (by kernel_rfl)) (by unfold Func.isWrapper; first | (rw [if_pos (by decide +kernel)]; kernel_rfl) | (rw [if_neg (by decide +kernel)]; exact ⟨rfl, rfl⟩))
    (fun os started H enc _ => lifted os started H enc)
theorem noStand : ∀ t ∈ Tryd.f10.params.toList, Tryd.prog.wantsStandIn t = false := by
  rw [Tryd.params10]
  simp only [List.mem_cons, List.not_mem_nil, or_false]
  rintro t (rfl | rfl | rfl | rfl) <;> kernel_rfl
theorem card_holds : Rows.BookTellsCardSaid :=
  Claim7.holds_tied_plain_at .later [] [.handle] true Rows.bookTellsCard.stood.harness true
    holds (fun _ h => by cases h) (by kernel_rfl) (fun _ h => by cases h) bookTells_row_tie rfl ⟨rfl, rfl⟩ (by kernel_rfl) rfl
    (fun f fn hf hfn => by
      obtain rfl : f = 10 := Option.some.inj ((show Tryd.prog.funcNamed Rows.bookTellsRow.func = some 10 by kernel_rfl).symm.trans hf) |>.symm
      obtain rfl : fn = Tryd.f10 := (Option.some.inj (Tryd.func10.symm.trans hfn)).symm
      exact ⟨by kernel_rfl, fun j t ht => noStand t (by
        have := Array.mem_of_getElem? ht
        simpa using this)⟩)
    (by kernel_rfl)
#print axioms card_holds
end lawBookTells
end Go.Proofs.YtikbcpljhjfoiaaDoor

/- By which place any cursor is held, where it is, and what stands between two: the law CursorTells answers true. Conditions: the library's one variable holds what its text lays (the card ties it). -/
import Derived.Test.YtikbcpljhjfoiaaDoorCursor
import Derived.Test.YtikbcpljhjfoiaaDoorRefBook
import Derived.Test.YtikbcpljhjfoiaaDoorRefText
import Derived.Test.YtikbcpljhjfoiaaDoorOpenDir
import Derived.Test.YtikbcpljhjfoiaaDoorCard
namespace Go.Proofs.YtikbcpljhjfoiaaDoor
open Go.RowKit Go.WideShapes Go.ChangeShapes Go.ChangeAt
set_option linter.unusedVariables false
theorem reads_takeL {w : World} {B : Nat} {A : Option Addr} {l : List LLeaf} {i : Nat} (hi : i ≤ l.length) (h : Reads w B 3 A l.length (lcells l)) : Reads w B 3 A (l.take i).length (lcells (l.take i)) := by
  have h2 : (l.take i).length = i := by rw [List.length_take]; omega
  rw [h2]
  refine ⟨by rw [lcells_len, h2], fun hn => ?_⟩
  obtain ⟨ad, e, hb1, hcc⟩ := h.2 (by omega)
  refine ⟨ad, e, hb1, fun j u hj => hcc j u ?_⟩
  rw [← lcells_take, List.getElem?_take] at hj
  split at hj
  · exact hj
  · cases hj
namespace lawCursorTells
theorem beq_self (k : Int) : (k == k) = true := by simp
def seenTx (l : List LLeaf) : ByteArray := if bookErr l = 0 then textOf l else ⟨#[]⟩
def r2 (l : List LLeaf) (p q : ByteArray) : Int := if resErr l p ≠ 0 then resErr l p else cpErr q
def asks (e : Int) (p : ByteArray) : Bool := e == 0 && !decide (p.size = 0)
set_option maxRecDepth 100000 in
set_option maxHeartbeats 1000000 in
theorem where_any (w : World) (A : Option Addr) (c : Nat) (l : List LLeaf) (h : Reads w w.heap.size 3 A l.length (lcells l)) (ok : BookOk l) (hn : l.length ≤ c) (hc : c ≤ 9223372036854775807) (p : ByteArray) :
    Calls Tryd.prog 40 #[.slice A l.length c, .string p] w (CheckPost w (.int .i64 (posOf l p : Int))) := by
  have hfew := ok.few
  have HT := Lib.hid (rtext_any w A c l h ok.fit (by omega))
  have HA := Lib.hid (rahead_any w A c l p h (by omega) ok.rising)
  have HK := Lib.hid (rtext_any w A c (l.take (ahead l p)) (reads_takeL (ahead_le l p) h) (ok.fit.sub (fun x hx => List.mem_of_mem_take hx)) (by rw [List.length_take]; omega))
  have hl : (l.take (ahead l p)).length = ahead l p := by rw [List.length_take]; have := ahead_le l p; omega
  rw [hl] at HK
  have hal := ahead_le l p
  clear h ok hl
  by_cases h0 : p.size = 0
  · have g1 := empty_yes h0
    have HV : Hid (posOf l p = (textOf l).size) := if_pos h0
    clear h0 HK HA
    go_enter Tryd.func40, Tryd.ntmps40
    go_wp2_with fail
    refine HT.out.mono ?_
    rintro e w1 ⟨rfl, hb1⟩
    have HB1 := Lib.hid hb1
    clear hb1
    go_wp2_with fail
    go_ret
    exact ⟨by rw [HV.out]; rfl, HB1.out⟩
  · have g1 := empty_no h0
    have HV : Hid (posOf l p = (textOf (l.take (ahead l p))).size) := if_neg h0
    clear h0 HT
    go_enter Tryd.func40, Tryd.ntmps40
    go_wp2_with fail
    refine HA.out.mono ?_
    rintro e w1 ⟨rfl, rfl⟩
    generalize ahead l p = i at *
    have i0 : (0 : Int) ≤ (i : Int) := by omega
    have i1 : (i : Int) ≤ (c : Int) := by omega
    go_wp2_with fail
    refine HK.out.mono ?_
    rintro e w2 ⟨rfl, hb2⟩
    have HB2 := Lib.hid hb2
    clear hb2
    go_wp2_with fail
    go_ret
    exact ⟨by rw [HV.out]; rfl, HB2.out⟩
set_option maxRecDepth 100000 in
set_option maxHeartbeats 8000000 in
theorem walk (w : World) (A : Option Addr) (c : Nat) (l : List LLeaf) (off : Int) (p q : ByteArray) (hg : Glob w) (h : Reads w w.heap.size 3 A l.length (lcells l)) (hs : Sized l) (hc : l.length ≤ c) (hcm : c ≤ 9223372036854775807)
    (hp : p.size ≤ 9223372036854775807) (hq : q.size ≤ 9223372036854775807) (ho : off ≤ 9223372036854775807) :
    Calls Tryd.prog 6 #[.slice A l.length c, .int .i64 off, .string p, .string q] w (CheckPost w (.bool true)) := by
  have HR : Hid (∀ W, Below w.heap.size w W → Reads W W.heap.size 3 A l.length (lcells l)) := fun W hb => (h.below hb).more hb.size
  have KE := Lib.hid (fun W (hb : Below w.heap.size w W) k e => error_any W k e (hg.below hb (Nat.le_refl _)))
  have KRB := Lib.hid (fun W (hb : Below w.heap.size w W) => rbook_any W A c l (HR.out W hb) hs (by omega))
  have KA := Lib.hid (fun W (hb : Below w.heap.size w W) => anchor_any W A c l (HR.out W hb) hs hc hcm off ho)
  have KV := Lib.hid (fun W (hb : Below w.heap.size w W) => resolve_any W A c l (HR.out W hb) hs hc hcm p hp)
  have KG := Lib.hid (fun W (hb : Below w.heap.size w W) => range_any W A c l (HR.out W hb) hs hc hcm p q hp hq)
  have KRP := Lib.hid (fun W => rplace_any W p hp)
  have KRQ := Lib.hid (fun W => rplace_any W q hq)
  have KRT := Lib.hid (fun W (hb : Below w.heap.size w W) (he : bookErr l = 0) => rtext_any W A c l (HR.out W hb) (book_ok he).fit (by have := (book_ok he).few; omega))
  have KRN := Lib.hid (fun W (hb : Below w.heap.size w W) (he : bookErr l = 0) (h0 : 0 ≤ off) => rnth_any W A c l off (HR.out W hb) (by have := (book_ok he).few; omega) h0)
  have KWH := Lib.hid (fun W (hb : Below w.heap.size w W) (he : bookErr l = 0) x => where_any W A c l (HR.out W hb) (book_ok he) hc hcm x)
  have HB0 : Hid (Below w.heap.size w w) := Below.refl _ _
  have HR1 : Hid (resErr l p = 0 → bookErr l = 0) := fun h => by
    unfold resErr at h
    by_cases h1 : bookErr l ≠ 0
    · rw [if_pos h1] at h; exact h
    · omega
  clear h hs hg hc hcm hp hq
  go_enter Tryd.func6, Tryd.ntmps6
  go_wp2_with fail
  refine (KRB.out _ HB0.out).mono ?_
  rintro e w1 ⟨rfl, hb1⟩
  have HB1 := Lib.hid hb1
  clear hb1 HB0
  go_upto_if 27 with (fail)
  go_cut [10, 11, 12] (fun a b c wx => a = .int .i64 (anchErr l off) ∧ b = .string (seenTx l) ∧ c = .string (anchRes l off) ∧ Hid (Below w.heap.size w wx))
  case first => as_aux_lemma =>
    by_cases he : bookErr l = 0
    · have HE := Lib.hid he
      have HTX : Hid (seenTx l = textOf l) := if_pos he
      have g0 : (bookErr l == 0) = true := by rw [beq_iff_eq]; exact he
      have ok := book_ok he
      have hfew := ok.few
      have hts := text_size l
      have htl := textL_le l
      have h300 : (textOf l).size ≤ 300 := by omega
      by_cases hb : off < 0 ∨ ((textOf l).size : Int) < off
      · have HF : Hid (anchErr l off = 1) := by show _ = _; unfold anchErr; rw [if_neg (fun x => x he), if_pos hb]
        have HG : Hid (anchRes l off = ⟨#[]⟩) := by show _ = _; unfold anchRes; rw [HF.out, if_neg (fun x => by have := x.1; omega)]
        clear he ok hts htl
        generalize htx : textOf l = tx at *
        have HX := Lib.hid htx
        clear htx
        by_cases h1 : off < 0
        · clear hb
          go_wp2_with fail
          refine (KRT.out _ HB1.out HE.out).mono ?_
          rintro e w2 ⟨rfl, hb2⟩
          have HB2 := Lib.hid (HB1.out.trans (hb2.mono HB1.out.size))
          clear hb2
          go_wp2_with fail
          go_meet
          case rel => exact ⟨by rw [HF.out], by rw [HTX.out], by rw [HG.out], HB2⟩
        · have h2 : (tx.size : Int) < off := by omega
          clear hb
          go_wp2_with fail
          refine (KRT.out _ HB1.out HE.out).mono ?_
          rintro e w2 ⟨rfl, hb2⟩
          have HB2 := Lib.hid (HB1.out.trans (hb2.mono HB1.out.size))
          clear hb2
          go_wp2_with fail
          go_meet
          case rel => exact ⟨by rw [HF.out], by rw [HTX.out], by rw [HG.out], HB2⟩
      · have HF : Hid (anchErr l off = 0) := by show _ = _; unfold anchErr; rw [if_neg (fun x => x he), if_neg hb]
        obtain ⟨o, rfl⟩ := Int.eq_ofNat_of_zero_le (show 0 ≤ off by omega)
        have g3 : decide ((o : Int) < 0) = false := decide_eq_false (by omega)
        by_cases heq : o < (textOf l).size
        · obtain ⟨k, hk, hk1, _, _⟩ := nth_seen l 0 o (by omega)
          rw [Nat.zero_add] at hk1
          have HG : Hid (anchRes l (o : Int) = l[k].place) := by
            show _ = _
            unfold anchRes
            rw [if_pos ⟨HF.out, by omega⟩, hk1]
            simp [List.getD, hk]
          have HK := Lib.hid hk1
          have HLF : Hid (∀ W, Below w.heap.size w W → ∃ ad, A = some ad ∧ W.cell? (ad.add (k * 3)) = some (.string l[k].place)) := fun W hb => by
            obtain ⟨ad, e, _, c0, _, _⟩ := (HR.out W hb).leaf hk
            exact ⟨ad, e, c0⟩
          clear he ok hts htl hk1
          generalize htx : textOf l = tx at *
          have HX := Lib.hid htx
          clear htx
          have g4 : decide ((tx.size : Int) < (o : Int)) = false := decide_eq_false (by omega)
          have g4n : decide (tx.size < o) = false := decide_eq_false (by omega)
          have g5 : decide ((o : Int) < (tx.size : Int)) = true := decide_eq_true (by omega)
          have g5n : decide (o < tx.size) = true := decide_eq_true heq
          have o0 : (0 : Int) ≤ (o : Int) := by omega
          have k0 : (0 : Int) ≤ (k : Int) := by omega
          have k1 : (k : Int) < (l.length : Int) := by omega
          generalize l[k].place = pk at *
          clear hb
          go_wp2_with fail
          refine (KRT.out _ HB1.out HE.out).mono ?_
          rintro e w2 ⟨rfl, hb2⟩
          have HB2 := Lib.hid (HB1.out.trans (hb2.mono HB1.out.size))
          clear hb2
          go_wp2_with fail
          refine (KRN.out _ HB2.out HE.out o0).mono ?_
          rintro e w3 ⟨rfl, hb3⟩
          rw [HK.out]
          have HB3 := Lib.hid (HB2.out.trans (hb3.mono HB2.out.size))
          clear hb3
          obtain ⟨ad, rfl, c0⟩ := HLF.out _ HB3.out
          go_wp2_with fail
          go_meet
          case rel => exact ⟨by rw [HF.out, HE.out], by rw [HTX.out], by rw [HG.out], HB3⟩
        · have HG : Hid (anchRes l (o : Int) = ⟨#[]⟩) := by show _ = _; unfold anchRes; rw [if_neg (fun x => by have := x.2; omega)]
          clear he ok hts htl
          generalize htx : textOf l = tx at *
          have HX := Lib.hid htx
          clear htx
          have g4 : decide ((tx.size : Int) < (o : Int)) = false := decide_eq_false (by omega)
          have g4n : decide (tx.size < o) = false := decide_eq_false (by omega)
          have g5 : decide ((o : Int) < (tx.size : Int)) = false := decide_eq_false (by omega)
          have g5n : decide (o < tx.size) = false := decide_eq_false heq
          clear hb heq
          go_wp2_with fail
          refine (KRT.out _ HB1.out HE.out).mono ?_
          rintro e w2 ⟨rfl, hb2⟩
          have HB2 := Lib.hid (HB1.out.trans (hb2.mono HB1.out.size))
          clear hb2
          go_wp2_with fail
          go_meet
          case rel => exact ⟨by rw [HF.out, HE.out], by rw [HTX.out], by rw [HG.out], HB2⟩
    · have HTX : Hid (seenTx l = ⟨#[]⟩) := if_neg he
      have HF : Hid (anchErr l off = bookErr l) := if_pos he
      have HG : Hid (anchRes l off = ⟨#[]⟩) := by show _ = _; unfold anchRes; rw [HF.out, if_neg (fun x => he x.1)]
      have g0 : (bookErr l == 0) = false := by rw [beq_eq_false_iff_ne]; exact he
      clear he
      go_wp2_with fail
      go_meet
      case rel => exact ⟨by rw [HF.out], by rw [HTX.out], by rw [HG.out], HB1⟩
  case rest => as_aux_lemma =>
    obtain ⟨rfl, rfl, rfl, HBc⟩ := hcut
    clear HB1
    go_wp2_with fail
    refine (KA.out _ HBc.out).mono ?_
    rintro e w4 ⟨rfl, hb4⟩
    have HB4 := Lib.hid (HBc.out.trans (hb4.mono HBc.out.size))
    clear hb4 HBc
    go_wp2_with fail
    refine (KE.out _ HB4.out _ _).mono ?_
    rintro e w5 ⟨rfl, hb5⟩
    rw [beq_self]
    have HB5 := Lib.hid (HB4.out.trans (hb5.mono HB4.out.size))
    clear hb5 HB4
    go_upto_region 14 with (fail)
    go_cut [64] (fun v wx => v = .bool (asks (bookErr l) p) ∧ wx = w5)
    case first => as_aux_lemma =>
      by_cases he : bookErr l = 0
      · have g0 : (bookErr l == 0) = true := by rw [beq_iff_eq]; exact he
        by_cases h0 : p.size = 0
        · have g1 := empty_yes h0
          have Z : Hid (asks (bookErr l) p = false) := by show _ = _; unfold asks; rw [g0, decide_eq_true h0]; rfl
          clear he h0
          go_wp2_with fail
          go_meet
          case rel => exact ⟨by rw [Z.out], rfl⟩
        · have g1 := empty_no h0
          have Z : Hid (asks (bookErr l) p = true) := by show _ = _; unfold asks; rw [g0, decide_eq_false h0]; rfl
          clear he h0
          go_wp2_with fail
          go_meet
          case rel => exact ⟨by rw [Z.out], rfl⟩
      · have g0 : (bookErr l == 0) = false := by rw [beq_eq_false_iff_ne]; exact he
        have Z : Hid (asks (bookErr l) p = false) := by show _ = _; unfold asks; rw [g0]; rfl
        clear he
        go_wp2_with fail
        go_meet
        case rel => exact ⟨by rw [Z.out], rfl⟩
    case rest => as_aux_lemma =>
      obtain ⟨rfl, hwc⟩ := hcut
      subst wc
      go_upto_if 64 with (fail)
      go_cut [10] (fun a wx => a = .int .i64 (resErr l p) ∧ wx = w5)
      case first => as_aux_lemma =>
        have HF : Hid (resErr l p = if asks (bookErr l) p = true then placeErr p else bookErr l) := by
          show _ = _
          unfold resErr asks cpErr
          by_cases he : bookErr l = 0
          · by_cases h0 : p.size = 0 <;> simp [he, h0]
          · simp [he]
        cases hz : asks (bookErr l) p with
        | true =>
          have HF2 : Hid (resErr l p = placeErr p) := by show _ = _; rw [HF.out, if_pos hz]
          clear hz HF
          go_wp2_with fail
          refine (KRP.out _).mono ?_
          rintro e w8 ⟨rfl, rfl⟩
          go_wp2_with fail
          go_meet
          case rel => exact ⟨by rw [HF2.out], rfl⟩
        | false =>
          have HF2 : Hid (resErr l p = bookErr l) := by show _ = _; rw [HF.out, if_neg (by rw [hz]; decide)]
          clear hz HF
          go_wp2_with fail
          go_meet
          case rel => exact ⟨by rw [HF2.out], rfl⟩
      case rest => as_aux_lemma =>
        obtain ⟨rfl, hwc⟩ := hcut
        subst wc
        go_upto_if 68 with (fail)
        go_cut [16] (fun a wx => a = .int .i64 (resVal l p) ∧ Hid (Below w.heap.size w wx))
        case first => as_aux_lemma =>
          by_cases he : resErr l p = 0
          · have HE := Lib.hid (HR1.out he)
            have HV : Hid (resVal l p = (posOf l p : Int)) := if_pos he
            have g0 : (resErr l p == 0) = true := by rw [beq_iff_eq]; exact he
            clear he
            go_wp2_with fail
            refine (KWH.out _ HB5.out HE.out p).mono ?_
            rintro e w6 ⟨rfl, hb6⟩
            have HB6 := Lib.hid (HB5.out.trans (hb6.mono HB5.out.size))
            clear hb6
            go_wp2_with fail
            go_meet
            case rel => exact ⟨by rw [HV.out], HB6⟩
          · have HV : Hid (resVal l p = 0) := if_neg he
            have g0 : (resErr l p == 0) = false := by rw [beq_eq_false_iff_ne]; exact he
            clear he
            go_wp2_with fail
            go_meet
            case rel => exact ⟨by rw [HV.out], HB5⟩
        case rest => as_aux_lemma =>
          obtain ⟨rfl, HBd⟩ := hcut
          clear HB5
          go_wp2_with fail
          refine (KV.out _ HBd.out).mono ?_
          rintro e w6 ⟨rfl, hb6⟩
          have HB6 := Lib.hid (HBd.out.trans (hb6.mono HBd.out.size))
          clear hb6 HBd
          go_wp2_with fail
          refine (KE.out _ HB6.out _ _).mono ?_
          rintro e w7 ⟨rfl, hb7⟩
          rw [beq_self]
          have HB7 := Lib.hid (HB6.out.trans (hb7.mono HB6.out.size))
          clear hb7 HB6
          go_upto_region 21 with (fail)
          go_cut [86] (fun v wx => v = .bool (asks (resErr l p) q) ∧ wx = w7)
          case first => as_aux_lemma =>
            by_cases he : resErr l p = 0
            · have g0 : (resErr l p == 0) = true := by rw [beq_iff_eq]; exact he
              by_cases h0 : q.size = 0
              · have g1 := empty_yes h0
                have Z : Hid (asks (resErr l p) q = false) := by show _ = _; unfold asks; rw [g0, decide_eq_true h0]; rfl
                clear he h0
                go_wp2_with fail
                go_meet
                case rel => exact ⟨by rw [Z.out], rfl⟩
              · have g1 := empty_no h0
                have Z : Hid (asks (resErr l p) q = true) := by show _ = _; unfold asks; rw [g0, decide_eq_false h0]; rfl
                clear he h0
                go_wp2_with fail
                go_meet
                case rel => exact ⟨by rw [Z.out], rfl⟩
            · have g0 : (resErr l p == 0) = false := by rw [beq_eq_false_iff_ne]; exact he
              have Z : Hid (asks (resErr l p) q = false) := by show _ = _; unfold asks; rw [g0]; rfl
              clear he
              go_wp2_with fail
              go_meet
              case rel => exact ⟨by rw [Z.out], rfl⟩
          case rest => as_aux_lemma =>
            obtain ⟨rfl, hwc⟩ := hcut
            subst wc
            go_upto_if 86 with (fail)
            go_cut [10] (fun a wx => a = .int .i64 (r2 l p q) ∧ wx = w7)
            case first => as_aux_lemma =>
              have HF : Hid (r2 l p q = if asks (resErr l p) q = true then placeErr q else resErr l p) := by
                show _ = _
                unfold r2 asks cpErr
                by_cases he : resErr l p = 0
                · by_cases h0 : q.size = 0 <;> simp [he, h0]
                · simp [he]
              cases hz : asks (resErr l p) q with
              | true =>
                have HF2 : Hid (r2 l p q = placeErr q) := by show _ = _; rw [HF.out, if_pos hz]
                clear hz HF
                go_wp2_with fail
                refine (KRQ.out _).mono ?_
                rintro e w8 ⟨rfl, rfl⟩
                go_wp2_with fail
                go_meet
                case rel => exact ⟨by rw [HF2.out], rfl⟩
              | false =>
                have HF2 : Hid (r2 l p q = resErr l p) := by show _ = _; rw [HF.out, if_neg (by rw [hz]; decide)]
                clear hz HF
                go_wp2_with fail
                go_meet
                case rel => exact ⟨by rw [HF2.out], rfl⟩
            case rest => as_aux_lemma =>
              obtain ⟨rfl, hwc⟩ := hcut
              subst wc
              go_upto_if 90 with (fail)
              go_cut [11, 16, 17, 10, 19] (fun x y y2 a b wx => x = .string (seenTx l) ∧ y = .int .i64 (resVal l p) ∧ y2 = .int .i64 (resVal l p) ∧ a = .int .i64 (rngErr l p q) ∧ b = .string (rngRes l p q) ∧ Hid (Below w.heap.size w wx))
              case first => as_aux_lemma =>
                have HRE : Hid (rngErr l p q = if r2 l p q ≠ 0 then r2 l p q else if posOf l q < posOf l p then 3 else 0) := by
                  show _ = _
                  unfold rngErr r2
                  by_cases he : resErr l p = 0
                  · by_cases h0 : cpErr q = 0 <;> simp [he, h0]
                  · simp [he]
                have HRR : Hid (rngRes l p q = if rngErr l p q = 0 then (textOf l).extract (posOf l p) (posOf l q) else ⟨#[]⟩) := rfl
                by_cases he : r2 l p q = 0
                · have hr1 : resErr l p = 0 := by
                    unfold r2 at he
                    by_cases h1 : resErr l p ≠ 0
                    · rw [if_pos h1] at he; exact he
                    · omega
                  have HE := Lib.hid (HR1.out hr1)
                  have HV : Hid (resVal l p = (posOf l p : Int)) := if_pos hr1
                  have HTX : Hid (seenTx l = textOf l) := if_pos HE.out
                  have g0 : (r2 l p q == 0) = true := by rw [beq_iff_eq]; exact he
                  have he0 := he
                  have HRE2 : Hid (rngErr l p q = if posOf l q < posOf l p then 3 else 0) := by show _ = _; rw [HRE.out, if_neg (fun x => x he)]
                  have l1 := pos_le l p
                  have l2 := pos_le l q
                  have hts := text_size l
                  have htl := textL_le l
                  have hfew := (book_ok HE.out).few
                  have h300 : (textOf l).size ≤ 300 := by omega
                  have KW2 := Lib.hid (KWH.out _ HB7.out HE.out q)
                  rw [HTX.out, HV.out]
                  clear he hr1 HRE hts htl
                  generalize posOf l p = i at *
                  generalize hj : posOf l q = j at *
                  have HJ := Lib.hid hj
                  clear hj
                  generalize textOf l = tx at *
                  have i0 : (0 : Int) ≤ (i : Int) := by omega
                  have j0 : (0 : Int) ≤ (j : Int) := by omega
                  have j1 : (j : Int) ≤ (tx.size : Int) := by omega
                  by_cases hji : j < i
                  · have hji' : (j : Int) < (i : Int) := by omega
                    have HF : Hid (rngErr l p q = 3) := by show _ = _; rw [HRE2.out, if_pos hji]
                    have HG : Hid (rngRes l p q = ⟨#[]⟩) := by show _ = _; rw [HRR.out, HF.out, if_neg (by decide)]
                    clear HRE2 HRR
                    go_wp2_with fail
                    refine KW2.out.mono ?_
                    rintro e w8 ⟨rfl, hb8⟩
                    have HB8 := Lib.hid (HB7.out.trans (hb8.mono HB7.out.size))
                    clear hb8
                    go_wp2_with fail
                    go_meet
                    case rel => exact ⟨by rw [HTX.out], by rw [HV.out], by rw [HV.out], by rw [HF.out], by rw [HG.out], HB8⟩
                  · have hji' : decide ((j : Int) < (i : Int)) = false := decide_eq_false (by omega)
                    have hji2 : decide (j < i) = false := decide_eq_false hji
                    have hij : (i : Int) ≤ (j : Int) := by omega
                    have HF : Hid (rngErr l p q = 0) := by show _ = _; rw [HRE2.out, if_neg hji]
                    have HG : Hid (rngRes l p q = tx.extract i j) := by show _ = _; rw [HRR.out, HF.out, if_pos rfl]
                    have HR20 := Lib.hid he0
                    clear HRE2 HRR he0
                    go_wp2_with fail
                    refine KW2.out.mono ?_
                    rintro e w8 ⟨rfl, hb8⟩
                    have HB8 := Lib.hid (HB7.out.trans (hb8.mono HB7.out.size))
                    clear hb8
                    go_wp2_with fail
                    go_meet
                    case rel => exact ⟨by rw [HTX.out], by rw [HV.out], by rw [HV.out], by rw [HF.out, HR20.out], by rw [HG.out], HB8⟩
                · have HF : Hid (rngErr l p q = r2 l p q) := by show _ = _; rw [HRE.out, if_pos he]
                  have HG : Hid (rngRes l p q = ⟨#[]⟩) := by show _ = _; rw [HRR.out, HF.out, if_neg he]
                  have g0 : (r2 l p q == 0) = false := by rw [beq_eq_false_iff_ne]; exact he
                  clear he HRE HRR
                  go_wp2_with fail
                  go_meet
                  case rel => exact ⟨rfl, rfl, rfl, by rw [HF.out], by rw [HG.out], HB7⟩
              case rest => as_aux_lemma =>
                obtain ⟨rfl, rfl, rfl, rfl, rfl, HBe⟩ := hcut
                clear HB7
                go_wp2_with fail
                refine (KG.out _ HBe.out).mono ?_
                rintro e w8 ⟨rfl, hb8⟩
                have HB8 := Lib.hid (HBe.out.trans (hb8.mono HBe.out.size))
                clear hb8 HBe
                go_wp2_with fail
                refine (KE.out _ HB8.out _ _).mono ?_
                rintro e w9 ⟨rfl, hb9⟩
                rw [beq_self]
                have HB9 := Lib.hid (HB8.out.trans (hb9.mono HB8.out.size))
                clear hb9 HB8
                have e1 : ((anchRes l off).toList == (anchRes l off).toList) = true := by simp
                have e2 : (resVal l p == resVal l p) = true := by simp
                have e3 : ((rngRes l p q).toList == (rngRes l p q).toList) = true := by simp
                go_wp2_with fail
                go_ret
                exact ⟨rfl, HB9.out⟩
set_option maxRecDepth 100000 in
theorem lifted (os : Os) (started : os.Started) (H : Type) (enc : TypeId × Value → H) :
    ReturnsInHanded {} Tryd.checked os 6 .any (fun w args => (Rows.cursorTellsSpec.pre enc Tryd.prog Tryd.f6 [] false w args ∧ laidMetH Tryd.prog Card.laid w) ∧ sizedMet enc Tryd.prog Tryd.f6 (OpenSpec.ofChange Rows.cursorTellsSpec) false w args)
      (Rows.cursorTellsSpec.post enc Tryd.prog Tryd.f6 false true false false) := by
  refine returnsInHanded_of_change_and (C := Tryd.checked) (X := fun w _ => laidMetH Tryd.prog Card.laid w) (fun _ _ _ hh h => h.of_heap hh) Tryd.own started (by kernel_rfl) Tryd.func6
    (ChangeSpec.witness_at (enc := enc) (C := Tryd.checked) (os := os) (X := fun w _ => laidMetH Tryd.prog Card.laid w) false (Card.laidWorld os) #[.slice none 0 0, .int .i64 0, .string ⟨#[]⟩, .string ⟨#[]⟩] 8 rfl (by kernel_rfl) (by kernel_rfl) (by kernel_rfl) (by kernel_rfl) (by kernel_rfl) (Card.laidWorld_met os _)) ?_
  intro W base args ds gs before hval0 hW _ hsz0 hL _
  have hval : ∀ (j : Nat) t v, Tryd.f6.params[j]? = some t → args[j]? = some v → Value.okWide Tryd.prog W .any base t v := hval0
  obtain ⟨p, q, hA0, _⟩ := id hW
  have hA : DataW.TrodAll enc Tryd.prog W 0 (fun _ => true) true Tryd.f6.params.toList args.toList ds p := hA0
  have hsz : (DataW.weightsEach Tryd.prog (Tryd.f6.params.toList ++ Rows.cursorTellsSpec.plain.varTypes Tryd.prog) (ds ++ gs)).all (· ≤ reachBytes) = true := hsz0
  rw [Tryd.params6] at hA hval hsz
  obtain ⟨v0, v1, v2, v3, d0, d1, d2, d3, p0, p1, p2, p3, rfl, rfl, rfl, h0, h1, h2, h3⟩ := trodAll_four hA
  obtain ⟨A0, c0, l0, rfl, r0, g0, lc0, cm0⟩ := arg_leafs (hval 0 22 v0 rfl rfl) h0
  obtain ⟨a1, rfl, rfl, rfl, wa1⟩ := open_int Tryd.underlying3 (hval 1 3 v1 rfl rfl) h1
  obtain ⟨a2, rfl, rfl, rfl, wa2⟩ := Go.ChangeMaps.open_string Tryd.underlying9 (hval 2 9 v2 rfl rfl) h2
  obtain ⟨a3, rfl, rfl, rfl, wa3⟩ := Go.ChangeMaps.open_string Tryd.underlying9 (hval 3 9 v3 rfl rfl) h3
  refine (walk W A0 c0 l0 a1 a2 a3 (Card.glob_of_laid hL) r0 (fun x hx => by have := (g0 x hx).1; unfold maxLen at this; omega) lc0 (by unfold maxLen at cm0; omega) (by unfold maxLen at wa2; exact wa2) (by unfold maxLen at wa3; exact wa3) (i64_of_wf wa1).2).mono fun e W' ⟨he, hb⟩ => ⟨_, he, ?_⟩
  exact law_post Tryd.laidOut (tb := 4) (by kernel_rfl) Tryd.underlying4 (by rw [Tryd.params6]; simp only [List.mem_cons, List.not_mem_nil, or_false]; rintro t (rfl | rfl | rfl | rfl) <;> exact ⟨by kernel_rfl, of_decide_eq_true (by kernel_rfl)⟩) rfl rfl hW hb

theorem holds : Rows.CursorTellsSaid :=
  OpenClaim.holds_of_wide 6 Tryd.f6 rfl rfl rfl rfl rfl rfl rfl ⟨rfl, rfl, rfl, rfl, rfl⟩ rfl rfl rfl rfl rfl (by kernel_rfl) Tryd.func6 (by kernel_rfl)
    (of_decide_eq_true (by kernel_rfl)) (by unfold Func.isWrapper; first | (rw [if_pos (by decide +kernel)]; kernel_rfl) | (rw [if_neg (by decide +kernel)]; exact ⟨rfl, rfl⟩))
    (fun os started H enc _ => lifted os started H enc)
theorem noStand : ∀ t ∈ Tryd.f6.params.toList, Tryd.prog.wantsStandIn t = false := by
  rw [Tryd.params6]
  simp only [List.mem_cons, List.not_mem_nil, or_false]
  rintro t (rfl | rfl | rfl | rfl) <;> kernel_rfl
theorem card_holds : Rows.CursorTellsCardSaid :=
  Claim7.holds_tied_plain_at .later [] [.handle] true Rows.cursorTellsCard.stood.harness true
    holds (fun _ h => by cases h) (by kernel_rfl) (fun _ h => by cases h) cursorTells_row_tie rfl ⟨rfl, rfl⟩ (by kernel_rfl) rfl
    (fun f fn hf hfn => by
      obtain rfl : f = 6 := Option.some.inj ((show Tryd.prog.funcNamed Rows.cursorTellsRow.func = some 6 by kernel_rfl).symm.trans hf) |>.symm
      obtain rfl : fn = Tryd.f6 := (Option.some.inj (Tryd.func6.symm.trans hfn)).symm
      exact ⟨by kernel_rfl, fun j t ht => noStand t (by
        have := Array.mem_of_getElem? ht
        simpa using this)⟩)
    (by kernel_rfl)
#print axioms card_holds
end lawCursorTells
end Go.Proofs.YtikbcpljhjfoiaaDoor

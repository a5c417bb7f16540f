/- cursor.Anchor, Resolve, Range, walked. Conditions: places that an int may count. -/
import Derived.Test.YtobdollnkndmeaaGreatDoorBookLaw
import Derived.Test.YtobdollnkndmeaaGreatDoorNthSeen
namespace Go.Proofs.YtobdollnkndmeaaGreatDoor
open Go.RowKit
set_option linter.unusedVariables false

theorem empty_yes {p : ByteArray} (h : p.size = 0) : p.toList.isEmpty = true := by
  rw [toList_data, List.isEmpty_iff]
  exact List.eq_nil_of_length_eq_zero (by rw [Array.length_toList]; exact h)
theorem empty_no {p : ByteArray} (h : p.size ≠ 0) : p.toList.isEmpty = false := by
  rw [toList_data]
  cases hl : p.data.toList with
  | nil =>
    have : p.data.toList.length = 0 := by rw [hl]; rfl
    rw [Array.length_toList] at this
    exact absurd this h
  | cons a b => rfl
/-- Where a cursor is, of a book that is right. -/
def posOf (l : List LLeaf) (p : ByteArray) : Nat := if p.size = 0 then (textOf l).size else (textOf (l.take (ahead l p))).size
def cpErr (p : ByteArray) : Int := if p.size = 0 then 0 else placeErr p
def anchErr (l : List LLeaf) (off : Int) : Int := if bookErr l ≠ 0 then bookErr l else if off < 0 ∨ ((textOf l).size : Int) < off then 1 else 0
def anchRes (l : List LLeaf) (off : Int) : ByteArray := if anchErr l off = 0 ∧ off < ((textOf l).size : Int) then (l.getD (nthFrom 0 l off).toNat default).place else ⟨#[]⟩
def resErr (l : List LLeaf) (p : ByteArray) : Int := if bookErr l ≠ 0 then bookErr l else cpErr p
def resVal (l : List LLeaf) (p : ByteArray) : Int := if resErr l p = 0 then (posOf l p : Int) else 0
def rngErr (l : List LLeaf) (p q : ByteArray) : Int := if resErr l p ≠ 0 then resErr l p else if cpErr q ≠ 0 then cpErr q else if posOf l q < posOf l p then 3 else 0
def rngRes (l : List LLeaf) (p q : ByteArray) : ByteArray := if rngErr l p q = 0 then (textOf l).extract (posOf l p) (posOf l q) else ⟨#[]⟩
theorem text_size (l : List LLeaf) : (textOf l).size = (textL l).length := strOf_size _
theorem text_take_le (l : List LLeaf) (i : Nat) : (textL (l.take i)).length ≤ (textL l).length := by
  have e : textL l = textL (l.take i) ++ textL (l.drop i) := by
    unfold textL
    rw [← List.map_append, ← List.filter_append, List.take_append_drop]
  rw [e, List.length_append]; omega
theorem pos_le (l : List LLeaf) (p : ByteArray) : posOf l p ≤ (textOf l).size := by
  unfold posOf
  split
  · exact Nat.le_refl _
  · rw [text_size, text_size]; exact text_take_le l _
theorem place_size {p : ByteArray} (h : placeErr p = 0) : p.size ≠ 0 := by
  intro h0
  unfold placeErr at h
  rw [if_neg (by omega)] at h
  by_cases h1 : Letters p ∧ EndOk p
  · have := h1.2.1; omega
  · rw [if_neg h1] at h; omega
def StrPost (w : World) (s : ByteArray) (k : Int) (e : Ending) (w' : World) : Prop := e = .returned (.tuple #[.string s, errV k]) ∧ Below w.heap.size w w'
def RgLoop (w : World) (p q : ByteArray) (i : Value) (wr : World) : Prop :=
  ∃ k : Nat, k ≤ 2 ∧ i = .int .i64 k ∧ Hid (1 ≤ k → cpErr p = 0) ∧ Hid (2 ≤ k → cpErr q = 0) ∧ Hid (Below w.heap.size w wr)
section
variable (w : World) (A : Option Addr) (c : Nat) (l : List LLeaf) (h : Reads w w.heap.size 3 A l.length (lcells l)) (hs : Sized l) (hn : l.length ≤ c) (hc : c ≤ 9223372036854775807)
include h hs hn hc
set_option maxRecDepth 100000 in
set_option maxHeartbeats 2000000 in
theorem resolve_any (p : ByteArray) (hp : p.size ≤ 9223372036854775807) : Calls Tryz.prog 59 #[.slice A l.length c, .string p] w (OffPost w (resVal l p) (resErr l p)) := by
  by_cases h0 : p.size = 0
  · have HT := Lib.hid (text_any w A c l h hs (by omega))
    have g1 := empty_yes h0
    have hE : resErr l p = bookErr l := by
      unfold resErr cpErr
      rw [if_pos h0]
      split
      · rfl
      · next h1 => omega
    have HE := Lib.hid hE
    have HV : Hid (resVal l p = ((if bookErr l = 0 then textOf l else ⟨#[]⟩ : ByteArray).size : Int)) := by
      show _ = _
      unfold resVal posOf
      rw [hE, if_pos h0]
      split <;> rfl
    obtain ⟨tx, htx⟩ : ∃ tx, tx = (if bookErr l = 0 then textOf l else ⟨#[]⟩ : ByteArray) := ⟨_, rfl⟩
    have HTX := Lib.hid htx
    clear h hs h0 hE htx
    go_enter Tryz.func59, Tryz.ntmps59
    go_wp2_with fail
    refine HT.out.mono ?_
    rintro e w1 ⟨rfl, hb1⟩
    rw [← HTX.out]
    have HB1 := Lib.hid hb1
    clear hb1
    go_wp2_with fail
    go_ret2
    exact ⟨by rw [HV.out, HE.out, ← HTX.out]; rfl, HB1.out⟩
  · have HO := Lib.hid (offset_any w A c l p h hs hn hc hp)
    have g1 := empty_no h0
    have hE : resErr l p = bookReady l p := by unfold resErr cpErr bookReady; rw [if_neg h0]
    have HE := Lib.hid hE
    have HV : Hid (resVal l p = offOf l p) := by show _ = _; unfold resVal offOf posOf; rw [hE, if_neg h0]
    clear h hs h0 hE
    go_enter Tryz.func59, Tryz.ntmps59
    go_wp2_with fail
    refine HO.out.mono ?_
    rintro e w1 ⟨rfl, hb1⟩
    have HB1 := Lib.hid hb1
    clear hb1
    go_wp2_with fail
    go_ret2
    exact ⟨by rw [HV.out, HE.out]; rfl, HB1.out⟩
set_option maxRecDepth 100000 in
set_option maxHeartbeats 2000000 in
theorem anchor_any (off : Int) (ho : off ≤ 9223372036854775807) : Calls Tryz.prog 26 #[.slice A l.length c, .int .i64 off] w (StrPost w (anchRes l off) (anchErr l off)) := by
  have HT := Lib.hid (text_any w A c l h hs (by omega))
  have HR := Lib.hid h
  clear h hs
  by_cases he : bookErr l = 0
  · have HE := Lib.hid he
    have ok := book_ok he
    have hfew := ok.few
    have hts := text_size l
    have htl := textL_le l
    by_cases hb : off < 0 ∨ ((textOf l).size : Int) < off
    · have HF : Hid (anchErr l off = 1) := by show _ = _; unfold anchErr; rw [if_neg (fun x => x he), if_pos hb]
      have HG : Hid (anchRes l off = ⟨#[]⟩) := by show _ = _; unfold anchRes; rw [HF.out, if_neg (fun x => by have := x.1; omega)]
      generalize htx : textOf l = tx at *
      have HTX := Lib.hid htx
      clear htx
      have g1 : (decide (off < 0) || decide ((tx.size : Int) < off)) = true := by simp; omega
      have h300 : tx.size ≤ 300 := by omega
      clear he ok hts htl
      by_cases h1 : off < 0
      · clear hb
        go_enter Tryz.func26, Tryz.ntmps26
        go_wp2_with fail
        refine HT.out.mono ?_
        rintro e w1 ⟨rfl, hb1⟩
        rw [if_pos HE.out, HE.out, HTX.out, show errV 0 = .nilIface from rfl]
        have HB1 := Lib.hid hb1
        clear hb1
        go_wp2_with fail
        go_ret2
        exact ⟨by rw [HF.out, HG.out]; rfl, HB1.out⟩
      · have h2 : (tx.size : Int) < off := by omega
        clear hb
        go_enter Tryz.func26, Tryz.ntmps26
        go_wp2_with fail
        refine HT.out.mono ?_
        rintro e w1 ⟨rfl, hb1⟩
        rw [if_pos HE.out, HE.out, HTX.out, show errV 0 = .nilIface from rfl]
        have HB1 := Lib.hid hb1
        clear hb1
        go_wp2_with fail
        go_ret2
        exact ⟨by rw [HF.out, HG.out]; rfl, HB1.out⟩
    · have HF : Hid (anchErr l off = 0) := by show _ = _; unfold anchErr; rw [if_neg (fun x => x he), if_neg hb]
      obtain ⟨o, rfl⟩ := Int.eq_ofNat_of_zero_le (show 0 ≤ off by omega)
      by_cases heq : o = (textOf l).size
      · have HG : Hid (anchRes l (o : Int) = ⟨#[]⟩) := by show _ = _; unfold anchRes; rw [if_neg (fun x => by have := x.2; omega)]
        generalize htx : textOf l = tx at *
        have HTX := Lib.hid htx
        clear htx
        subst heq
        have h300 : tx.size ≤ 300 := by omega
        have g0 : decide ((tx.size : Int) < 0) = false := decide_eq_false (by omega)
        have g1 : decide ((tx.size : Int) < (tx.size : Int)) = false := decide_eq_false (by omega)
        have g2 : ((tx.size : Int) == (tx.size : Int)) = true := by simp
        clear he ok hb hts htl
        go_enter Tryz.func26, Tryz.ntmps26
        go_wp2_with fail
        refine HT.out.mono ?_
        rintro e w1 ⟨rfl, hb1⟩
        rw [if_pos HE.out, HE.out, HTX.out, show errV 0 = .nilIface from rfl]
        have HB1 := Lib.hid hb1
        clear hb1
        go_wp2_with fail
        go_ret2
        exact ⟨by rw [HF.out, HG.out]; rfl, HB1.out⟩
      · obtain ⟨k, hk, hk1, _, _⟩ := nth_seen l 0 o (by omega)
        rw [Nat.zero_add] at hk1
        have HG : Hid (anchRes l (o : Int) = l[k].place) := by
          show _ = _
          unfold anchRes
          rw [if_pos ⟨HF.out, by omega⟩, hk1]
          simp [List.getD, hk]
        have HN := Lib.hid (fun W (hb : Below w.heap.size w W) => nth_any W A c l (o : Int) ((HR.out.below hb).more hb.size) (by omega) (by omega) ho)
        have HK := Lib.hid hk1
        have HLF : Hid (∀ W, Below w.heap.size w W → ∃ ad, A = some ad ∧ W.cell? (ad.add (k * 3)) = some (.string l[k].place)) := fun W hb => by
          obtain ⟨ad, e, _, c0, _, _⟩ := ((HR.out.below hb)).leaf hk
          exact ⟨ad, e, c0⟩
        generalize htx : textOf l = tx at *
        have HTX := Lib.hid htx
        clear htx
        have h300 : tx.size ≤ 300 := by omega
        have g0 : decide ((o : Int) < 0) = false := decide_eq_false (by omega)
        have g1 : decide ((tx.size : Int) < (o : Int)) = false := decide_eq_false (by omega)
        have g1n : decide (tx.size < o) = false := decide_eq_false (by omega)
        have g2 : ((o : Int) == (tx.size : Int)) = false := by rw [beq_eq_false_iff_ne]; omega
        have k0 : (0 : Int) ≤ (k : Int) := by omega
        have k1 : (k : Int) < (l.length : Int) := by omega
        generalize l[k].place = pk at *
        clear he ok hb hts htl hk1
        go_enter Tryz.func26, Tryz.ntmps26
        go_wp2_with fail
        refine HT.out.mono ?_
        rintro e w1 ⟨rfl, hb1⟩
        rw [if_pos HE.out, HE.out, HTX.out, show errV 0 = .nilIface from rfl]
        have HB1 := Lib.hid hb1
        clear hb1
        go_wp2_with fail
        refine (HN.out _ HB1.out).mono ?_
        rintro e w2 ⟨rfl, hb2⟩
        rw [HK.out]
        have HB2 := Lib.hid (HB1.out.trans (hb2.mono HB1.out.size))
        clear hb2
        obtain ⟨ad, rfl, c0⟩ := HLF.out _ HB2.out
        go_wp2_with fail
        go_ret2
        exact ⟨by rw [HF.out, HG.out]; rfl, HB2.out⟩
  · have HV := Lib.hid (errV_ne he)
    have HF : Hid (anchErr l off = bookErr l) := if_pos he
    have HG : Hid (anchRes l off = ⟨#[]⟩) := by show _ = _; unfold anchRes; rw [HF.out, if_neg (fun x => he x.1)]
    have HN := Lib.hid he
    clear he
    go_enter Tryz.func26, Tryz.ntmps26
    go_wp2_with fail
    refine HT.out.mono ?_
    rintro e w1 ⟨rfl, hb1⟩
    rw [if_neg HN.out, HV.out]
    have HB1 := Lib.hid hb1
    clear hb1
    go_wp2_with fail
    go_ret2
    exact ⟨by rw [HF.out, HG.out, HV.out]; rfl, HB1.out⟩
set_option maxRecDepth 100000 in
set_option maxHeartbeats 4000000 in
theorem range_any (p q : ByteArray) (hps : p.size ≤ 9223372036854775807) (hqs : q.size ≤ 9223372036854775807) : Calls Tryz.prog 25 #[.slice A l.length c, .string p, .string q] w (StrPost w (rngRes l p q) (rngErr l p q)) := by
  have HT := Lib.hid (text_any w A c l h hs (by omega))
  have KR := Lib.hid (fun W (hb : Below w.heap.size w W) p hp => resolve_any W A c l ((h.below hb).more hb.size) hs hn hc p hp)
  clear h hs
  by_cases he : bookErr l = 0
  · have HE := Lib.hid he
    have ok := book_ok he
    have hfew := ok.few
    have hts := text_size l
    have htl := textL_le l
    have h300 : (textOf l).size ≤ 300 := by omega
    clear he ok hts htl
    go_enter Tryz.func25, Tryz.ntmps25
    go_wp2_with fail
    refine HT.out.mono ?_
    rintro e w1 ⟨rfl, hb1⟩
    rw [if_pos HE.out, HE.out, show errV 0 = .nilIface from rfl]
    have HB1 := Lib.hid hb1
    have HBA : Hid (Below w.heap.size w (w1.alloc (.cells #[.string p, .string q] 9))) := hb1.alloc hb1.size _
    have HBK : Hid (∀ W, Below (w1.alloc (.cells #[.string p, .string q] 9)).heap.size (w1.alloc (.cells #[.string p, .string q] 9)) W → W.cell? ⟨w1.heap.size, 0, none⟩ = some (.string p) ∧ W.cell? ⟨w1.heap.size, 1, none⟩ = some (.string q)) := fun W hb => by
      have k := (Blk.new w1 9 #[.string p, .string q]).below hb (by simp)
      exact ⟨by rw [k.cell]; rfl, by rw [k.cell]; rfl⟩
    clear hb1
    go_wp2_with fail
    go_loopw [27] (fun i wr => RgLoop (w1.alloc (.cells #[.string p, .string q] 9)) p q i wr) (fun i _ => 2 - (intOf i).toNat)
    case atStart => exact ⟨0, by omega, rfl, fun h => by omega, fun h => by omega, Below.refl _ _⟩
    case round =>
      obtain ⟨k, hk, rfl, P0, Q0, HB⟩ := hrel
      obtain ⟨c0, c1⟩ := HBK.out _ HB.out
      rcases (show k = 0 ∨ k = 1 ∨ k = 2 by omega) with rfl | rfl | rfl
      · by_cases hz : p.size = 0
        · have g1 := empty_yes hz
          have HC : Hid (cpErr p = 0) := if_pos hz
          clear hz
          go_wp2_with fail
          go_roundw
          case rel => exact ⟨1, by omega, rfl, fun _ => HC.out, fun h => by omega, HB⟩
          case measure => simp [intOf]
        · have g1 := empty_no hz
          have HCX := Lib.hid (check_any wr p hps)
          by_cases he : placeErr p = 0
          · have HC : Hid (cpErr p = 0) := by show _ = _; unfold cpErr; rw [if_neg hz]; exact he
            have HPE := Lib.hid he
            clear hz he
            go_wp2_with fail
            refine HCX.out.mono ?_
            rintro e w2 ⟨rfl, hb2⟩
            rw [HPE.out, show errV 0 = .nilIface from rfl]
            have HB2 := Lib.hid (HB.out.trans (hb2.mono HB.out.size))
            clear hb2
            go_wp2_with fail
            go_roundw
            case rel => exact ⟨1, by omega, rfl, fun _ => HC.out, fun h => by omega, HB2⟩
            case measure => simp [intOf]
          · have HF : Hid (rngErr l p q = placeErr p ∧ rngRes l p q = ⟨#[]⟩) := by
                have h1 : resErr l p = placeErr p := by unfold resErr cpErr; rw [if_neg (fun x => x HE.out), if_neg hz]
                have h2 : rngErr l p q = placeErr p := by unfold rngErr; rw [h1, if_pos he]
                exact ⟨h2, by unfold rngRes; rw [h2, if_neg he]⟩
            have HV := Lib.hid (errV_ne he)
            clear hz he
            go_wp2_with fail
            refine HCX.out.mono ?_
            rintro e w2 ⟨rfl, hb2⟩
            rw [HV.out]
            have HB2 := Lib.hid (HB.out.trans (hb2.mono HB.out.size))
            clear hb2
            go_wp2_with fail
            go_ret2
            exact ⟨by rw [HF.out.1, HF.out.2, HV.out]; rfl, HBA.out.trans (HB2.out.mono HBA.out.size)⟩
      · have P0 := Lib.hid (P0.out (by omega))
        clear Q0
        · by_cases hz : q.size = 0
          · have g1 := empty_yes hz
            have HC : Hid (cpErr q = 0) := if_pos hz
            clear hz
            go_wp2_with fail
            go_roundw
            case rel => exact ⟨2, by omega, rfl, fun _ => P0.out, fun _ => HC.out, HB⟩
            case measure => simp [intOf]
          · have g1 := empty_no hz
            have HCX := Lib.hid (check_any wr q hqs)
            by_cases he : placeErr q = 0
            · have HC : Hid (cpErr q = 0) := by show _ = _; unfold cpErr; rw [if_neg hz]; exact he
              have HPE := Lib.hid he
              clear hz he
              go_wp2_with fail
              refine HCX.out.mono ?_
              rintro e w2 ⟨rfl, hb2⟩
              rw [HPE.out, show errV 0 = .nilIface from rfl]
              have HB2 := Lib.hid (HB.out.trans (hb2.mono HB.out.size))
              clear hb2
              go_wp2_with fail
              go_roundw
              case rel => exact ⟨2, by omega, rfl, fun _ => P0.out, fun _ => HC.out, HB2⟩
              case measure => simp [intOf]
            · have HF : Hid (rngErr l p q = placeErr q ∧ rngRes l p q = ⟨#[]⟩) := by
                  have h1 : resErr l p = 0 := by unfold resErr; rw [if_neg (fun x => x HE.out)]; exact P0.out
                  have h3 : cpErr q = placeErr q := by unfold cpErr; rw [if_neg hz]
                  have h2 : rngErr l p q = placeErr q := by unfold rngErr; rw [h1, if_neg (by simp), h3, if_pos he]
                  exact ⟨h2, by unfold rngRes; rw [h2, if_neg he]⟩
              have HV := Lib.hid (errV_ne he)
              clear hz he
              go_wp2_with fail
              refine HCX.out.mono ?_
              rintro e w2 ⟨rfl, hb2⟩
              rw [HV.out]
              have HB2 := Lib.hid (HB.out.trans (hb2.mono HB.out.size))
              clear hb2
              go_wp2_with fail
              go_ret2
              exact ⟨by rw [HF.out.1, HF.out.2, HV.out]; rfl, HBA.out.trans (HB2.out.mono HBA.out.size)⟩
      · have P0 := Lib.hid (P0.out (by omega))
        have Q0 := Lib.hid (Q0.out (by omega))
        have R1 : Hid (resErr l p = 0) := by show _ = _; unfold resErr; rw [if_neg (fun x => x HE.out)]; exact P0.out
        have R2 : Hid (resErr l q = 0) := by show _ = _; unfold resErr; rw [if_neg (fun x => x HE.out)]; exact Q0.out
        have V1 : Hid (resVal l p = (posOf l p : Int)) := if_pos R1.out
        have V2 : Hid (resVal l q = (posOf l q : Int)) := if_pos R2.out
        have HBw : Hid (Below w.heap.size w wr) := HBA.out.trans (HB.out.mono HBA.out.size)
        have l1 := pos_le l p
        have l2 := pos_le l q
        have HRE : Hid (rngErr l p q = if posOf l q < posOf l p then 3 else 0) := by show _ = _; unfold rngErr; rw [R1.out, if_neg (by simp), Q0.out, if_neg (by simp)]
        have HRR : Hid (rngRes l p q = if rngErr l p q = 0 then (textOf l).extract (posOf l p) (posOf l q) else ⟨#[]⟩) := rfl
        clear c0 c1
        generalize posOf l p = i at *
        generalize posOf l q = j at *
        generalize textOf l = tx at *
        have i0 : (0 : Int) ≤ (i : Int) := by omega
        have j0 : (0 : Int) ≤ (j : Int) := by omega
        have j1 : (j : Int) ≤ (tx.size : Int) := by omega
        go_wp2_with fail
        refine (KR.out _ HBw.out p hps).mono ?_
        rintro e w2 ⟨rfl, hb2⟩
        rw [R1.out, V1.out, show errV 0 = .nilIface from rfl]
        have HB2 := Lib.hid (HBw.out.trans (hb2.mono HBw.out.size))
        clear hb2
        go_wp2_with fail
        refine (KR.out _ HB2.out q hqs).mono ?_
        rintro e w3 ⟨rfl, hb3⟩
        rw [R2.out, V2.out, show errV 0 = .nilIface from rfl]
        have HB3 := Lib.hid (HB2.out.trans (hb3.mono HB2.out.size))
        clear hb3
        by_cases hji : j < i
        · have hji' : (j : Int) < (i : Int) := by omega
          have HF : Hid (rngErr l p q = 3) := by show _ = _; rw [HRE.out, if_pos hji]
          have HG : Hid (rngRes l p q = ⟨#[]⟩) := by show _ = _; rw [HRR.out, HF.out, if_neg (by decide)]
          clear HRE HRR
          go_wp2_with fail
          go_ret2
          exact ⟨by rw [HF.out, HG.out]; rfl, HB3.out⟩
        · have hji' : decide ((j : Int) < (i : Int)) = false := decide_eq_false (by omega)
          have hji2 : decide (j < i) = false := decide_eq_false hji
          have hij : (i : Int) ≤ (j : Int) := by omega
          have HF : Hid (rngErr l p q = 0) := by show _ = _; rw [HRE.out, if_neg hji]
          have HG : Hid (rngRes l p q = tx.extract i j) := by show _ = _; rw [HRR.out, HF.out, if_pos rfl]
          clear HRE HRR
          go_wp2_with fail
          go_ret2
          exact ⟨by rw [HF.out, HG.out]; rfl, HB3.out⟩
  · have HV := Lib.hid (errV_ne he)
    have HF : Hid (rngErr l p q = bookErr l) := by
      have h1 : resErr l p = bookErr l := if_pos he
      show _ = _
      unfold rngErr; rw [h1, if_pos he]
    have HG : Hid (rngRes l p q = ⟨#[]⟩) := by show _ = _; unfold rngRes; rw [HF.out, if_neg he]
    have HN := Lib.hid he
    clear he
    go_enter Tryz.func25, Tryz.ntmps25
    go_wp2_with fail
    refine HT.out.mono ?_
    rintro e w1 ⟨rfl, hb1⟩
    rw [if_neg HN.out, HV.out]
    have HB1 := Lib.hid hb1
    clear hb1
    go_wp2_with fail
    go_ret2
    exact ⟨by rw [HF.out, HG.out, HV.out]; rfl, HB1.out⟩
end
end Go.Proofs.YtobdollnkndmeaaGreatDoor

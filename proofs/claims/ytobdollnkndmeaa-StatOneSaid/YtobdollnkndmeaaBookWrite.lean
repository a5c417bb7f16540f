/- book.ready, book.Write, book.Strike, book.Offset, walked. Conditions: places that an int may count. -/
import Derived.Test.YtobdollnkndmeaaBookPut
namespace Go.Proofs.Ytobdollnkndmeaa
open Go.RowKit
set_option linter.unusedVariables false
/-- What is wrong with a book, and a place. -/
def bookReady (l : List LLeaf) (p : ByteArray) : Int := if bookErr l ≠ 0 then bookErr l else placeErr p
set_option maxRecDepth 100000 in
theorem bready_any (w : World) (A : Option Addr) (c : Nat) (l : List LLeaf) (p : ByteArray) (h : Reads w w.heap.size 3 A l.length (lcells l)) (hs : Sized l) (hn : l.length ≤ 9223372036854775807) (hp : p.size ≤ 9223372036854775807) :
    Calls Try.prog 82 #[.slice A l.length c, .string p] w (CheckPost w (errV (bookReady l p))) := by
  have HC := Lib.hid (bookCheck_any w A c l h hs hn)
  have HP := Lib.hid (fun w => check_any w p hp)
  clear h hs hn
  by_cases he : bookErr l = 0
  · have HE := Lib.hid he
    have HF : Hid (bookReady l p = placeErr p) := if_neg (fun h => h he)
    clear he
    go_enter Try.func82, Try.ntmps82
    go_wp2_with fail
    refine HC.out.mono ?_
    rintro e w1 ⟨rfl, hb1⟩
    rw [HE.out, show errV 0 = .nilIface from rfl]
    have HB1 := Lib.hid hb1
    clear hb1
    go_wp2_with fail
    refine (HP.out _).mono ?_
    rintro e w2 ⟨rfl, hb2⟩
    have HB2 := Lib.hid (HB1.out.trans (hb2.mono HB1.out.size))
    clear hb2
    go_wp2_with fail
    go_ret
    exact ⟨by rw [HF.out]; rfl, HB2.out⟩
  · have HV := Lib.hid (errV_ne he)
    have HF : Hid (bookReady l p = bookErr l) := if_pos he
    clear he
    go_enter Try.func82, Try.ntmps82
    go_wp2_with fail
    refine HC.out.mono ?_
    rintro e w1 ⟨rfl, hb1⟩
    rw [HV.out]
    go_wp2_with fail
    go_ret
    exact ⟨by rw [HF.out, HV.out]; rfl, hb1⟩
theorem bready_ok {l : List LLeaf} {p : ByteArray} (h : bookReady l p = 0) : BookOk l ∧ placeErr p = 0 := by
  unfold bookReady at h
  by_cases he : bookErr l ≠ 0
  · rw [if_pos he] at h; exact absurd h he
  · rw [if_neg he] at h; exact ⟨book_ok (by omega), h⟩

def OffPost (w : World) (n k : Int) (e : Ending) (w' : World) : Prop := e = .returned (.tuple #[.int .i64 n, errV k]) ∧ Below w.heap.size w w'
/-- The offset of a place. -/
def offOf (l : List LLeaf) (p : ByteArray) : Int := if bookReady l p = 0 then ((textOf (l.take (ahead l p))).size : Int) else 0
set_option maxRecDepth 100000 in
theorem offset_any (w : World) (A : Option Addr) (c : Nat) (l : List LLeaf) (p : ByteArray) (h : Reads w w.heap.size 3 A l.length (lcells l)) (hs : Sized l) (hn : l.length ≤ c) (hc : c ≤ 9223372036854775807) (hp : p.size ≤ 9223372036854775807) :
    Calls Try.prog 52 #[.slice A l.length c, .string p] w (OffPost w (offOf l p) (bookReady l p)) := by
  have HC := Lib.hid (bready_any w A c l p h hs (by omega) hp)
  have HR := Lib.hid h
  clear h hs
  by_cases he : bookReady l p = 0
  · obtain ⟨ok, _⟩ := bready_ok he
    have HE := Lib.hid he
    have HO : Hid (offOf l p = ((textOf (l.take (ahead l p))).size : Int)) := if_pos he
    have hfew := ok.few
    have HF := Lib.hid (fun w1 (hb : Below w.heap.size w w1) => find_any w1 A c l p ((HR.out.below hb).more hb.size) (by omega) ok.rising)
    have hal := ahead_le l p
    have HT := Lib.hid (fun w1 (hb : Below w.heap.size w w1) c => textOf_any w1 A c (l.take (ahead l p)) (by
      have h1 := ((HR.out.below hb).more hb.size)
      have h2 : (l.take (ahead l p)).length = ahead l p := by rw [List.length_take]; omega
      rw [h2]
      refine ⟨by rw [lcells_len, h2], fun hn => ?_⟩
      obtain ⟨ad, e, hb1, hcc⟩ := h1.2 (by omega)
      refine ⟨ad, e, hb1, fun j u hj => hcc j u ?_⟩
      rw [← lcells_take, List.getElem?_take] at hj
      split at hj
      · exact hj
      · cases hj) (ok.fit.sub (fun x hx => List.mem_of_mem_take hx)) (by rw [List.length_take]; omega))
    have hl : (l.take (ahead l p)).length = ahead l p := by rw [List.length_take]; omega
    rw [hl] at HT
    clear he ok hl
    go_enter Try.func52, Try.ntmps52
    go_wp2_with fail
    refine HC.out.mono ?_
    rintro e w1 ⟨rfl, hb1⟩
    rw [HE.out, show errV 0 = .nilIface from rfl]
    have HB1 := Lib.hid hb1
    clear hb1
    go_wp2_with fail
    refine (HF.out _ HB1.out).mono ?_
    rintro e w2 ⟨rfl, hb2⟩
    have HB2 := Lib.hid (HB1.out.trans (hb2.mono HB1.out.size))
    clear hb2
    generalize ahead l p = i at *
    have i0 : (0 : Int) ≤ (i : Int) := by omega
    have i1 : (i : Int) ≤ (c : Int) := by omega
    go_wp2_with fail
    refine (HT.out _ HB2.out _).mono ?_
    rintro e w3 ⟨rfl, hb3⟩
    have HB3 := Lib.hid (HB2.out.trans (hb3.mono HB2.out.size))
    clear hb3
    go_wp2_with fail
    go_ret2
    exact ⟨by rw [HO.out, HE.out]; rfl, HB3.out⟩
  · have HV := Lib.hid (errV_ne he)
    have HO : Hid (offOf l p = 0) := if_neg he
    clear he
    go_enter Try.func52, Try.ntmps52
    go_wp2_with fail
    refine HC.out.mono ?_
    rintro e w1 ⟨rfl, hb1⟩
    rw [HV.out]
    go_wp2_with fail
    go_ret2
    exact ⟨by rw [HO.out, HV.out]; rfl, hb1⟩

def LLeaf.write (x : LLeaf) (n : Int) : LLeaf := ⟨x.place, n, x.struck⟩
def LLeaf.strike (x : LLeaf) : LLeaf := ⟨x.place, x.letter, true⟩
def leafAt (l : List LLeaf) (p : ByteArray) : LLeaf := l.getD (ahead l p) default
theorem hasAt_lt {l : List LLeaf} {p : ByteArray} (h : hasAt l p = true) : ahead l p < l.length := by
  unfold hasAt at h
  rcases Nat.lt_or_ge (ahead l p) l.length with h1 | h1
  · exact h1
  · rw [List.getElem?_eq_none h1] at h; cases h
theorem lcells_letter (l : List LLeaf) (i : Nat) (hi : i < l.length) (n : Int) : (lcells l).set (i * 3 + 1) (.int .i64 n) = lcells (l.set i (l[i].write n)) := by
  induction l generalizing i with
  | nil => simp at hi
  | cons x l ih =>
    cases i with
    | zero => rfl
    | succ i =>
      show (x.cells ++ lcells l).set ((i + 1) * 3 + 1) _ = x.cells ++ lcells (l.set i ((l[i]'(by simpa using hi)).write n))
      rw [← ih i (by simpa using hi), List.set_append_right _ _ (by simp [LLeaf.cells]; omega), show (i + 1) * 3 + 1 - x.cells.length = i * 3 + 1 by simp [LLeaf.cells]; omega]
theorem lcells_struck (l : List LLeaf) (i : Nat) (hi : i < l.length) : (lcells l).set (i * 3 + 2) (.bool true) = lcells (l.set i l[i].strike) := by
  induction l generalizing i with
  | nil => simp at hi
  | cons x l ih =>
    cases i with
    | zero => rfl
    | succ i =>
      show (x.cells ++ lcells l).set ((i + 1) * 3 + 2) _ = x.cells ++ lcells (l.set i (l[i]'(by simpa using hi)).strike)
      rw [← ih i (by simpa using hi), List.set_append_right _ _ (by simp [LLeaf.cells]; omega), show (i + 1) * 3 + 2 - x.cells.length = i * 3 + 2 by simp [LLeaf.cells]; omega]
/-- A book in which a letter is written; what is wrong. -/
def writeRes (l : List LLeaf) (p : ByteArray) (n : Int) : List LLeaf := if hasAt l p = true then l.set (ahead l p) ((leafAt l p).write n) else bookPut l (ahead l p) ⟨p, n, false⟩
def writeErr (l : List LLeaf) (p : ByteArray) (n : Int) : Int :=
  if bookReady l p ≠ 0 then bookReady l p else if letterB n = false then 1 else if hasAt l p = false then putErr l else if (leafAt l p).letter ≠ 0 ∧ (leafAt l p).letter ≠ n then 7 else 0
def strikeRes (l : List LLeaf) (p : ByteArray) : List LLeaf := if hasAt l p = true then l.set (ahead l p) (leafAt l p).strike else bookPut l (ahead l p) ⟨p, 0, true⟩
def strikeErr (l : List LLeaf) (p : ByteArray) : Int := if bookReady l p ≠ 0 then bookReady l p else if hasAt l p = false then putErr l else 0
def giveL (k : Int) (l : List LLeaf) : List LLeaf := if k = 0 then l else []
theorem giveL_bad {k : Int} (h : k ≠ 0) (l : List LLeaf) : giveL k l = [] := if_neg h
theorem putRes_give (l : List LLeaf) (i : Nat) (x : LLeaf) : putRes l i x = giveL (putErr l) (bookPut l i x) := by
  unfold putRes giveL putErr
  by_cases h : 300 ≤ l.length <;> simp [h]
set_option maxRecDepth 100000 in
set_option maxHeartbeats 2000000 in
theorem write_any (w : World) (A : Option Addr) (c : Nat) (l : List LLeaf) (p : ByteArray) (n : Int) (h : Reads w w.heap.size 3 A l.length (lcells l)) (hs : Sized l) (hn : l.length ≤ 9223372036854775807) (hp : p.size ≤ 9223372036854775807) :
    Calls Try.prog 73 #[.slice A l.length c, .string p, .int .i64 n] w (LeafsPost w (giveL (writeErr l p n) (writeRes l p n)) (writeErr l p n)) := by
  have HC := Lib.hid (bready_any w A c l p h hs (by omega) hp)
  have HR := Lib.hid h
  have HL := Lib.hid (fun w => letter_any w n)
  clear h hs
  by_cases he : bookReady l p = 0
  · obtain ⟨ok, _⟩ := bready_ok he
    have HE := Lib.hid he
    have hfew := ok.few
    have HF := Lib.hid (fun w1 (hb : Below w.heap.size w w1) => find_any w1 A c l p ((HR.out.below hb).more hb.size) (by omega) ok.rising)
    have hal := ahead_le l p
    by_cases hl : letterB n = true
    · have HLt := Lib.hid hl
      cases hh : hasAt l p with
      | false =>
        have HPU := Lib.hid (fun w1 (hb : Below w.heap.size w w1) => put_any w1 A c l (ahead l p) ⟨p, n, false⟩ ((HR.out.below hb).more hb.size) hfew hal)
        have HW : Hid (writeErr l p n = putErr l ∧ giveL (writeErr l p n) (writeRes l p n) = putRes l (ahead l p) ⟨p, n, false⟩) := by
          have h1 : writeErr l p n = putErr l := by unfold writeErr; rw [if_neg (fun h => h he), if_neg (by rw [hl]; decide), if_pos hh]
          exact ⟨h1, by rw [h1, putRes_give, writeRes, if_neg (by rw [hh]; decide)]⟩
        have HHs := Lib.hid hh
        clear he ok hl hh
        go_enter Try.func73, Try.ntmps73
        go_wp2_with fail
        refine HC.out.mono ?_
        rintro e w1 ⟨rfl, hb1⟩
        rw [HE.out, show errV 0 = .nilIface from rfl]
        have HB1 := Lib.hid hb1
        clear hb1
        go_wp2_with fail
        refine (HL.out _).mono ?_
        rintro e w1' ⟨rfl, rfl⟩
        rw [HLt.out]
        go_wp2_with fail
        refine (HF.out _ HB1.out).mono ?_
        rintro e w2 ⟨rfl, hb2⟩
        rw [HHs.out]
        have HB2 := Lib.hid (HB1.out.trans (hb2.mono HB1.out.size))
        clear hb2
        go_wp2_with fail
        refine (HPU.out _ HB2.out).mono ?_
        rintro e w3 ⟨V, cV, rfl, hO3, hb3⟩
        have HO3 := Lib.hid hO3
        have HB3 := Lib.hid (HB2.out.trans (hb3.mono HB2.out.size))
        clear hb3 hO3
        go_wp2_with fail
        go_ret2
        rw [HW.out.2, HW.out.1]
        exact ⟨V, cV, rfl, HO3.out.mono HB2.out.size, HB3.out⟩
      | true =>
        have hlt := hasAt_lt hh
        have HHs := Lib.hid hh
        have hla : leafAt l p = l[ahead l p] := by unfold leafAt; simp [List.getD, hlt]
        have hlc := lcells_letter l (ahead l p) hlt n
        rw [← hla] at hlc
        have HLC := Lib.hid hlc
        have HWR : Hid (writeRes l p n = l.set (ahead l p) ((leafAt l p).write n)) := if_pos hh
        have hwe : writeErr l p n = if (leafAt l p).letter ≠ 0 ∧ (leafAt l p).letter ≠ n then 7 else 0 := by unfold writeErr; rw [if_neg (fun h => h he), if_neg (by rw [hl]; decide), if_neg (by rw [hh]; decide)]
        have HLF : Hid (∀ W, Below w.heap.size w W → ∃ ad, A = some ad ∧ W.cell? ⟨(ad.add (ahead l p * 3)).block, (ad.add (ahead l p * 3)).off + 1, none⟩ = some (.int .i64 (leafAt l p).letter)) := fun W hb => by
          obtain ⟨ad, e, _, _, c1, _⟩ := (HR.out.below hb).leaf hlt
          exact ⟨ad, e, by rw [hla]; exact c1⟩
        have HCL := Lib.hid (fun w1 (hb : Below w.heap.size w w1) => cloneL w1 w1.heap.size A l.length c (lcells l) ((HR.out.below hb).more hb.size) (oneCells_l l) (Fits.of_small (by omega) (by decide)) (Nat.le_refl _))
        have HLA : Hid ((lcells l)[ahead l p * 3 + 1]? = some (.int .i64 (leafAt l p).letter)) := by show _ = _; rw [hla, lcells_at l _ 1 hlt (by omega)]; rfl
        have HLN : Hid ((l.set (ahead l p) ((leafAt l p).write n)).length = l.length) := List.length_set
        clear he ok hl hh hlc hla
        generalize leafAt l p = x at *
        have i0 : (0 : Int) ≤ (ahead l p : Int) := by omega
        have i1 : (ahead l p : Int) < (l.length : Int) := by omega
        by_cases hbad : x.letter ≠ 0 ∧ x.letter ≠ n
        · have HW : Hid (writeErr l p n = 7) := by show _ = _; rw [hwe, if_pos hbad]
          have g1 : (x.letter != 0) = true := by simpa using hbad.1
          have g2 : (x.letter != n) = true := by simpa using hbad.2
          clear hwe hbad
          go_enter Try.func73, Try.ntmps73
          go_wp2_with fail
          refine HC.out.mono ?_
          rintro e w1 ⟨rfl, hb1⟩
          rw [HE.out, show errV 0 = .nilIface from rfl]
          have HB1 := Lib.hid hb1
          clear hb1
          go_wp2_with fail
          refine (HL.out _).mono ?_
          rintro e w1' ⟨rfl, rfl⟩
          rw [HLt.out]
          go_wp2_with fail
          refine (HF.out _ HB1.out).mono ?_
          rintro e w2 ⟨rfl, hb2⟩
          rw [HHs.out]
          have HB2 := Lib.hid (HB1.out.trans (hb2.mono HB1.out.size))
          clear hb2 HF
          generalize ahead l p = i at *
          obtain ⟨ad, rfl, c1⟩ := HLF.out _ HB2.out
          go_wp2_with fail
          go_ret2
          rw [HW.out, giveL_bad (by decide)]
          exact leafs_none HB2.out
        · have HW : Hid (writeErr l p n = 0) := by show _ = _; rw [hwe, if_neg hbad]
          have HG := Lib.hid hbad
          clear hwe hbad
          go_enter Try.func73, Try.ntmps73
          go_wp2_with fail
          refine HC.out.mono ?_
          rintro e w1 ⟨rfl, hb1⟩
          rw [HE.out, show errV 0 = .nilIface from rfl]
          have HB1 := Lib.hid hb1
          clear hb1
          go_wp2_with fail
          refine (HL.out _).mono ?_
          rintro e w1' ⟨rfl, rfl⟩
          rw [HLt.out]
          go_wp2_with fail
          refine (HF.out _ HB1.out).mono ?_
          rintro e w2 ⟨rfl, hb2⟩
          rw [HHs.out]
          have HB2 := Lib.hid (HB1.out.trans (hb2.mono HB1.out.size))
          clear hb2 HF
          generalize ahead l p = i at *
          obtain ⟨ad, rfl, c1⟩ := HLF.out _ HB2.out
          have HCL2 := Lib.hid (HCL.out _ HB2.out)
          have finish : ∀ (W : World) (V : Option Addr) (cV : Nat) (g : Nat), Own W w2.heap.size 29 3 (some ⟨g, 0, none⟩) l.length cV (lcells l) → Below w2.heap.size w2 W →
              LeafsPost w (giveL (writeErr l p n) (writeRes l p n)) (writeErr l p n) (.returned (.tuple #[.slice (some ⟨g, 0, none⟩) l.length cV, .nilIface])) (W.setCell ⟨g, i * 3 + 1, none⟩ (.int .i64 n)) := fun W V cV g hO hb => by
            rw [HW.out, HWR.out, giveL, if_pos rfl]
            refine ⟨some ⟨g, 0, none⟩, cV, by rw [HLN.out]; rfl, ?_, ?_⟩
            · rw [HLN.out, ← HLC.out]
              exact (hO.storeK (by omega) _).mono HB2.out.size
            · have := (hO.lt g (by simp [ob])).1
              exact (HB2.out.trans (hb.mono HB2.out.size)).setCell (Nat.le_trans HB2.out.size this) _
          have HFin := Lib.hid finish
          clear finish
          by_cases h0 : x.letter = 0
          · have g1 : (x.letter != 0) = false := by simp [h0]
            clear h0
            go_wp2_with fail
            refine HCL2.out.mono ?_
            rintro e w3 ⟨V, cV, rfl, hO3, hb3⟩
            obtain ⟨g, rfl, _, _⟩ := hO3.head (by omega)
            have k0 : w3.cell? ⟨g, i * 3 + 1, none⟩ = some (.int .i64 x.letter) := by rw [hO3.cellAt (by omega)]; exact HLA.out
            have k1 := hO3.frozenAt (i * 3 + 1)
            have HF3 := Lib.hid (HFin.out w3 none cV g hO3 hb3)
            clear hO3 hb3
            go_wp2_with fail
            go_ret2
            exact HF3.out
          · have g1 : (x.letter != 0) = true := by simpa using h0
            have g2 : (x.letter != n) = false := by
              cases hc : (x.letter != n)
              · rfl
              · exact absurd ⟨h0, by simpa using hc⟩ HG.out
            clear h0
            go_wp2_with fail
            refine HCL2.out.mono ?_
            rintro e w3 ⟨V, cV, rfl, hO3, hb3⟩
            obtain ⟨g, rfl, _, _⟩ := hO3.head (by omega)
            have k0 : w3.cell? ⟨g, i * 3 + 1, none⟩ = some (.int .i64 x.letter) := by rw [hO3.cellAt (by omega)]; exact HLA.out
            have k1 := hO3.frozenAt (i * 3 + 1)
            have HF3 := Lib.hid (HFin.out w3 none cV g hO3 hb3)
            clear hO3 hb3
            go_wp2_with fail
            go_ret2
            exact HF3.out
    · have hl2 : letterB n = false := by simpa using hl
      have HLt := Lib.hid hl2
      have HW : Hid (writeErr l p n = 1) := by show _ = _; unfold writeErr; rw [if_neg (fun h => h he), if_pos hl2]
      clear he ok hl hl2
      go_enter Try.func73, Try.ntmps73
      go_wp2_with fail
      refine HC.out.mono ?_
      rintro e w1 ⟨rfl, hb1⟩
      rw [HE.out, show errV 0 = .nilIface from rfl]
      have HB1 := Lib.hid hb1
      clear hb1
      go_wp2_with fail
      refine (HL.out _).mono ?_
      rintro e w1' ⟨rfl, rfl⟩
      rw [HLt.out]
      go_wp2_with fail
      go_ret2
      rw [HW.out, giveL_bad (by decide)]
      exact leafs_none HB1.out
  · have HV := Lib.hid (errV_ne he)
    have HW : Hid (writeErr l p n = bookReady l p) := by show _ = _; unfold writeErr; rw [if_pos he]
    have HN := Lib.hid he
    clear he
    go_enter Try.func73, Try.ntmps73
    go_wp2_with fail
    refine HC.out.mono ?_
    rintro e w1 ⟨rfl, hb1⟩
    rw [HV.out]
    go_wp2_with fail
    go_ret2
    rw [HW.out, giveL_bad HN.out, ← HV.out]
    exact leafs_none hb1
set_option maxRecDepth 100000 in
set_option maxHeartbeats 2000000 in
theorem strike_any (w : World) (A : Option Addr) (c : Nat) (l : List LLeaf) (p : ByteArray) (h : Reads w w.heap.size 3 A l.length (lcells l)) (hs : Sized l) (hn : l.length ≤ 9223372036854775807) (hp : p.size ≤ 9223372036854775807) :
    Calls Try.prog 74 #[.slice A l.length c, .string p] w (LeafsPost w (giveL (strikeErr l p) (strikeRes l p)) (strikeErr l p)) := by
  have HC := Lib.hid (bready_any w A c l p h hs (by omega) hp)
  have HR := Lib.hid h
  clear h hs
  by_cases he : bookReady l p = 0
  · obtain ⟨ok, _⟩ := bready_ok he
    have HE := Lib.hid he
    have hfew := ok.few
    have HF := Lib.hid (fun w1 (hb : Below w.heap.size w w1) => find_any w1 A c l p ((HR.out.below hb).more hb.size) (by omega) ok.rising)
    have hal := ahead_le l p
    cases hh : hasAt l p with
    | false =>
      have HPU := Lib.hid (fun w1 (hb : Below w.heap.size w w1) => put_any w1 A c l (ahead l p) ⟨p, 0, true⟩ ((HR.out.below hb).more hb.size) hfew hal)
      have HW : Hid (strikeErr l p = putErr l ∧ giveL (strikeErr l p) (strikeRes l p) = putRes l (ahead l p) ⟨p, 0, true⟩) := by
        have h1 : strikeErr l p = putErr l := by unfold strikeErr; rw [if_neg (fun h => h he), if_pos hh]
        exact ⟨h1, by rw [h1, putRes_give, strikeRes, if_neg (by rw [hh]; decide)]⟩
      have HHs := Lib.hid hh
      clear he ok hh
      go_enter Try.func74, Try.ntmps74
      go_wp2_with fail
      refine HC.out.mono ?_
      rintro e w1 ⟨rfl, hb1⟩
      rw [HE.out, show errV 0 = .nilIface from rfl]
      have HB1 := Lib.hid hb1
      clear hb1
      go_wp2_with fail
      refine (HF.out _ HB1.out).mono ?_
      rintro e w2 ⟨rfl, hb2⟩
      rw [HHs.out]
      have HB2 := Lib.hid (HB1.out.trans (hb2.mono HB1.out.size))
      clear hb2
      go_wp2_with fail
      refine (HPU.out _ HB2.out).mono ?_
      rintro e w3 ⟨V, cV, rfl, hO3, hb3⟩
      have HO3 := Lib.hid hO3
      have HB3 := Lib.hid (HB2.out.trans (hb3.mono HB2.out.size))
      clear hb3 hO3
      go_wp2_with fail
      go_ret2
      rw [HW.out.2, HW.out.1]
      exact ⟨V, cV, rfl, HO3.out.mono HB2.out.size, HB3.out⟩
    | true =>
      have hlt := hasAt_lt hh
      have HHs := Lib.hid hh
      have hla : leafAt l p = l[ahead l p] := by unfold leafAt; simp [List.getD, hlt]
      have hlc := lcells_struck l (ahead l p) hlt
      rw [← hla] at hlc
      have HLC := Lib.hid hlc
      have HWR : Hid (strikeRes l p = l.set (ahead l p) (leafAt l p).strike) := if_pos hh
      have HW : Hid (strikeErr l p = 0) := by show _ = _; unfold strikeErr; rw [if_neg (fun h => h he), if_neg (by rw [hh]; decide)]
      have HLA : Hid ((lcells l)[ahead l p * 3 + 2]? = some (.bool (leafAt l p).struck)) := by show _ = _; rw [hla, lcells_at l _ 2 hlt (by omega)]; rfl
      have HCL := Lib.hid (fun w1 (hb : Below w.heap.size w w1) => cloneL w1 w1.heap.size A l.length c (lcells l) ((HR.out.below hb).more hb.size) (oneCells_l l) (Fits.of_small (by omega) (by decide)) (Nat.le_refl _))
      have HLN : Hid ((l.set (ahead l p) (leafAt l p).strike).length = l.length) := List.length_set
      clear he ok hh hlc hla
      generalize leafAt l p = x at *
      have i0 : (0 : Int) ≤ (ahead l p : Int) := by omega
      have i1 : (ahead l p : Int) < (l.length : Int) := by omega
      go_enter Try.func74, Try.ntmps74
      go_wp2_with fail
      refine HC.out.mono ?_
      rintro e w1 ⟨rfl, hb1⟩
      rw [HE.out, show errV 0 = .nilIface from rfl]
      have HB1 := Lib.hid hb1
      clear hb1
      go_wp2_with fail
      refine (HF.out _ HB1.out).mono ?_
      rintro e w2 ⟨rfl, hb2⟩
      rw [HHs.out]
      have HB2 := Lib.hid (HB1.out.trans (hb2.mono HB1.out.size))
      clear hb2 HF
      generalize ahead l p = i at *
      have HCL2 := Lib.hid (HCL.out _ HB2.out)
      go_wp2_with fail
      refine HCL2.out.mono ?_
      rintro e w3 ⟨V, cV, rfl, hO3, hb3⟩
      obtain ⟨g, rfl, _, _⟩ := hO3.head (by omega)
      have k0 : w3.cell? ⟨g, i * 3 + 2, none⟩ = some (.bool x.struck) := by rw [hO3.cellAt (by omega)]; exact HLA.out
      have k1 := hO3.frozenAt (i * 3 + 2)
      have HO3 := Lib.hid hO3
      have HB3 := Lib.hid hb3
      clear hO3 hb3
      go_wp2_with fail
      go_ret2
      rw [HW.out, HWR.out, giveL, if_pos rfl]
      refine ⟨some ⟨g, 0, none⟩, cV, by rw [HLN.out]; rfl, ?_, ?_⟩
      · rw [HLN.out, ← HLC.out]
        exact (HO3.out.storeK (by omega) _).mono HB2.out.size
      · have := (HO3.out.lt g (by simp [ob])).1
        exact (HB2.out.trans (HB3.out.mono HB2.out.size)).setCell (Nat.le_trans HB2.out.size this) _
  · have HV := Lib.hid (errV_ne he)
    have HW : Hid (strikeErr l p = bookReady l p) := by show _ = _; unfold strikeErr; rw [if_pos he]
    have HN := Lib.hid he
    clear he
    go_enter Try.func74, Try.ntmps74
    go_wp2_with fail
    refine HC.out.mono ?_
    rintro e w1 ⟨rfl, hb1⟩
    rw [HV.out]
    go_wp2_with fail
    go_ret2
    rw [HW.out, giveL_bad HN.out, ← HV.out]
    exact leafs_none hb1
end Go.Proofs.Ytobdollnkndmeaa

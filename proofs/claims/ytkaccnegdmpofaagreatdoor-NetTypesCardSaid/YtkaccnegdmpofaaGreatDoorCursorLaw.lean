/- 2 texts in one: each says ahead of itself what is proved, and its conditions. -/
import Derived.Test.YtkaccnegdmpofaaGreatDoorBookLaw
import Derived.Test.YtkaccnegdmpofaaGreatDoorEditLaw
import Derived.Test.YtkaccnegdmpofaaGreatDoorNthSeen
/- cursor.Anchor, Resolve, Range, walked. Conditions: places that an int may count. -/
namespace Go.Proofs.YtkaccnegdmpofaaGreatDoor
open Go.RowKit
set_option linter.unusedVariables false

theorem empty_yes {p : ByteArray} (h : p.size = 0) : p.toList.isEmpty = true := by
  rw [toList_data, List.isEmpty_iff]
  exact List.eq_nil_of_length_eq_zero (by rw [Array.length_toList]; exact h)
theorem empty_no {p : ByteArray} (h : p.size ≠ 0) : p.toList.isEmpty = false := by
  rw [toList_data]
  cases hl : p.data.toList with
  | nil =>
    have : p.data.toList.length = 0 := by rw [hl]; rfl
    rw [Array.length_toList] at this
    exact absurd this h
  | cons a b => rfl
/-- Where a cursor is, of a book that is right. -/
def posOf (l : List LLeaf) (p : ByteArray) : Nat := if p.size = 0 then (textOf l).size else (textOf (l.take (ahead l p))).size
def cpErr (p : ByteArray) : Int := if p.size = 0 then 0 else placeErr p
def anchErr (l : List LLeaf) (off : Int) : Int := if bookErr l ≠ 0 then bookErr l else if off < 0 ∨ ((textOf l).size : Int) < off then 1 else 0
def anchRes (l : List LLeaf) (off : Int) : ByteArray := if anchErr l off = 0 ∧ off < ((textOf l).size : Int) then (l.getD (nthFrom 0 l off).toNat default).place else ⟨#[]⟩
def resErr (l : List LLeaf) (p : ByteArray) : Int := if bookErr l ≠ 0 then bookErr l else cpErr p
def resVal (l : List LLeaf) (p : ByteArray) : Int := if resErr l p = 0 then (posOf l p : Int) else 0
def rngErr (l : List LLeaf) (p q : ByteArray) : Int := if resErr l p ≠ 0 then resErr l p else if cpErr q ≠ 0 then cpErr q else if posOf l q < posOf l p then 3 else 0
def rngRes (l : List LLeaf) (p q : ByteArray) : ByteArray := if rngErr l p q = 0 then (textOf l).extract (posOf l p) (posOf l q) else ⟨#[]⟩
theorem text_size (l : List LLeaf) : (textOf l).size = (textL l).length := strOf_size _
theorem text_take_le (l : List LLeaf) (i : Nat) : (textL (l.take i)).length ≤ (textL l).length := by
  have e : textL l = textL (l.take i) ++ textL (l.drop i) := by
    unfold textL
    rw [← List.map_append, ← List.filter_append, List.take_append_drop]
  rw [e, List.length_append]; omega
theorem pos_le (l : List LLeaf) (p : ByteArray) : posOf l p ≤ (textOf l).size := by
  unfold posOf
  split
  · exact Nat.le_refl _
  · rw [text_size, text_size]; exact text_take_le l _
theorem place_size {p : ByteArray} (h : placeErr p = 0) : p.size ≠ 0 := by
  intro h0
  unfold placeErr at h
  rw [if_neg (by omega)] at h
  by_cases h1 : Letters p ∧ EndOk p
  · have := h1.2.1; omega
  · rw [if_neg h1] at h; omega
def StrPost (w : World) (s : ByteArray) (k : Int) (e : Ending) (w' : World) : Prop := e = .returned (.tuple #[.string s, errV k]) ∧ Below w.heap.size w w'
def RgLoop (w : World) (p q : ByteArray) (i : Value) (wr : World) : Prop :=
  ∃ k : Nat, k ≤ 2 ∧ i = .int .i64 k ∧ Hid (1 ≤ k → cpErr p = 0) ∧ Hid (2 ≤ k → cpErr q = 0) ∧ Hid (Below w.heap.size w wr)
section
variable (w : World) (A : Option Addr) (c : Nat) (l : List LLeaf) (h : Reads w w.heap.size 3 A l.length (lcells l)) (hs : Sized l) (hn : l.length ≤ c) (hc : c ≤ 9223372036854775807)
include h hs hn hc
set_option maxRecDepth 100000 in
set_option maxHeartbeats 2000000 in
theorem resolve_any (p : ByteArray) (hp : p.size ≤ 9223372036854775807) : Calls Tryz.prog 40 #[.slice A l.length c, .string p] w (OffPost w (resVal l p) (resErr l p)) := by
  by_cases h0 : p.size = 0
  · have HT := Lib.hid (text_any w A c l h hs (by omega))
    have g1 := empty_yes h0
    have hE : resErr l p = bookErr l := by
      unfold resErr cpErr
      rw [if_pos h0]
      split
      · rfl
      · next h1 => omega
    have HE := Lib.hid hE
    have HV : Hid (resVal l p = ((if bookErr l = 0 then textOf l else ⟨#[]⟩ : ByteArray).size : Int)) := by
      show _ = _
      unfold resVal posOf
      rw [hE, if_pos h0]
      split <;> rfl
    obtain ⟨tx, htx⟩ : ∃ tx, tx = (if bookErr l = 0 then textOf l else ⟨#[]⟩ : ByteArray) := ⟨_, rfl⟩
    have HTX := Lib.hid htx
    clear h hs h0 hE htx
    go_enter Tryz.func40, Tryz.ntmps40
    go_wp2_with fail
    refine HT.out.mono ?_
    rintro e w1 ⟨rfl, hb1⟩
    rw [← HTX.out]
    have HB1 := Lib.hid hb1
    clear hb1
    go_wp2_with fail
    go_ret2
    exact ⟨by rw [HV.out, HE.out, ← HTX.out]; rfl, HB1.out⟩
  · have HO := Lib.hid (offset_any w A c l p h hs hn hc hp)
    have g1 := empty_no h0
    have hE : resErr l p = bookReady l p := by unfold resErr cpErr bookReady; rw [if_neg h0]
    have HE := Lib.hid hE
    have HV : Hid (resVal l p = offOf l p) := by show _ = _; unfold resVal offOf posOf; rw [hE, if_neg h0]
    clear h hs h0 hE
    go_enter Tryz.func40, Tryz.ntmps40
    go_wp2_with fail
    refine HO.out.mono ?_
    rintro e w1 ⟨rfl, hb1⟩
    have HB1 := Lib.hid hb1
    clear hb1
    go_wp2_with fail
    go_ret2
    exact ⟨by rw [HV.out, HE.out]; rfl, HB1.out⟩
set_option maxRecDepth 100000 in
set_option maxHeartbeats 2000000 in
theorem anchor_any (off : Int) (ho : off ≤ 9223372036854775807) : Calls Tryz.prog 38 #[.slice A l.length c, .int .i64 off] w (StrPost w (anchRes l off) (anchErr l off)) := by
  have HT := Lib.hid (text_any w A c l h hs (by omega))
  have HR := Lib.hid h
  clear h hs
  by_cases he : bookErr l = 0
  · have HE := Lib.hid he
    have ok := book_ok he
    have hfew := ok.few
    have hts := text_size l
    have htl := textL_le l
    by_cases hb : off < 0 ∨ ((textOf l).size : Int) < off
    · have HF : Hid (anchErr l off = 1) := by show _ = _; unfold anchErr; rw [if_neg (fun x => x he), if_pos hb]
      have HG : Hid (anchRes l off = ⟨#[]⟩) := by show _ = _; unfold anchRes; rw [HF.out, if_neg (fun x => by have := x.1; omega)]
      generalize htx : textOf l = tx at *
      have HTX := Lib.hid htx
      clear htx
      have g1 : (decide (off < 0) || decide ((tx.size : Int) < off)) = true := by simp; omega
      have h300 : tx.size ≤ 300 := by omega
      clear he ok hts htl
      by_cases h1 : off < 0
      · clear hb
        go_enter Tryz.func38, Tryz.ntmps38
        go_wp2_with fail
        refine HT.out.mono ?_
        rintro e w1 ⟨rfl, hb1⟩
        rw [if_pos HE.out, HE.out, HTX.out, show errV 0 = .nilIface from rfl]
        have HB1 := Lib.hid hb1
        clear hb1
        go_wp2_with fail
        go_ret2
        exact ⟨by rw [HF.out, HG.out]; rfl, HB1.out⟩
      · have h2 : (tx.size : Int) < off := by omega
        clear hb
        go_enter Tryz.func38, Tryz.ntmps38
        go_wp2_with fail
        refine HT.out.mono ?_
        rintro e w1 ⟨rfl, hb1⟩
        rw [if_pos HE.out, HE.out, HTX.out, show errV 0 = .nilIface from rfl]
        have HB1 := Lib.hid hb1
        clear hb1
        go_wp2_with fail
        go_ret2
        exact ⟨by rw [HF.out, HG.out]; rfl, HB1.out⟩
    · have HF : Hid (anchErr l off = 0) := by show _ = _; unfold anchErr; rw [if_neg (fun x => x he), if_neg hb]
      obtain ⟨o, rfl⟩ := Int.eq_ofNat_of_zero_le (show 0 ≤ off by omega)
      by_cases heq : o = (textOf l).size
      · have HG : Hid (anchRes l (o : Int) = ⟨#[]⟩) := by show _ = _; unfold anchRes; rw [if_neg (fun x => by have := x.2; omega)]
        generalize htx : textOf l = tx at *
        have HTX := Lib.hid htx
        clear htx
        subst heq
        have h300 : tx.size ≤ 300 := by omega
        have g0 : decide ((tx.size : Int) < 0) = false := decide_eq_false (by omega)
        have g1 : decide ((tx.size : Int) < (tx.size : Int)) = false := decide_eq_false (by omega)
        have g2 : ((tx.size : Int) == (tx.size : Int)) = true := by simp
        clear he ok hb hts htl
        go_enter Tryz.func38, Tryz.ntmps38
        go_wp2_with fail
        refine HT.out.mono ?_
        rintro e w1 ⟨rfl, hb1⟩
        rw [if_pos HE.out, HE.out, HTX.out, show errV 0 = .nilIface from rfl]
        have HB1 := Lib.hid hb1
        clear hb1
        go_wp2_with fail
        go_ret2
        exact ⟨by rw [HF.out, HG.out]; rfl, HB1.out⟩
      · obtain ⟨k, hk, hk1, _, _⟩ := nth_seen l 0 o (by omega)
        rw [Nat.zero_add] at hk1
        have HG : Hid (anchRes l (o : Int) = l[k].place) := by
          show _ = _
          unfold anchRes
          rw [if_pos ⟨HF.out, by omega⟩, hk1]
          simp [List.getD, hk]
        have HN := Lib.hid (fun W (hb : Below w.heap.size w W) => nth_any W A c l (o : Int) ((HR.out.below hb).more hb.size) (by omega) (by omega) ho)
        have HK := Lib.hid hk1
        have HLF : Hid (∀ W, Below w.heap.size w W → ∃ ad, A = some ad ∧ W.cell? (ad.add (k * 3)) = some (.string l[k].place)) := fun W hb => by
          obtain ⟨ad, e, _, c0, _, _⟩ := ((HR.out.below hb)).leaf hk
          exact ⟨ad, e, c0⟩
        generalize htx : textOf l = tx at *
        have HTX := Lib.hid htx
        clear htx
        have h300 : tx.size ≤ 300 := by omega
        have g0 : decide ((o : Int) < 0) = false := decide_eq_false (by omega)
        have g1 : decide ((tx.size : Int) < (o : Int)) = false := decide_eq_false (by omega)
        have g1n : decide (tx.size < o) = false := decide_eq_false (by omega)
        have g2 : ((o : Int) == (tx.size : Int)) = false := by rw [beq_eq_false_iff_ne]; omega
        have k0 : (0 : Int) ≤ (k : Int) := by omega
        have k1 : (k : Int) < (l.length : Int) := by omega
        generalize l[k].place = pk at *
        clear he ok hb hts htl hk1
        go_enter Tryz.func38, Tryz.ntmps38
        go_wp2_with fail
        refine HT.out.mono ?_
        rintro e w1 ⟨rfl, hb1⟩
        rw [if_pos HE.out, HE.out, HTX.out, show errV 0 = .nilIface from rfl]
        have HB1 := Lib.hid hb1
        clear hb1
        go_wp2_with fail
        refine (HN.out _ HB1.out).mono ?_
        rintro e w2 ⟨rfl, hb2⟩
        rw [HK.out]
        have HB2 := Lib.hid (HB1.out.trans (hb2.mono HB1.out.size))
        clear hb2
        obtain ⟨ad, rfl, c0⟩ := HLF.out _ HB2.out
        go_wp2_with fail
        go_ret2
        exact ⟨by rw [HF.out, HG.out]; rfl, HB2.out⟩
  · have HV := Lib.hid (errV_ne he)
    have HF : Hid (anchErr l off = bookErr l) := if_pos he
    have HG : Hid (anchRes l off = ⟨#[]⟩) := by show _ = _; unfold anchRes; rw [HF.out, if_neg (fun x => he x.1)]
    have HN := Lib.hid he
    clear he
    go_enter Tryz.func38, Tryz.ntmps38
    go_wp2_with fail
    refine HT.out.mono ?_
    rintro e w1 ⟨rfl, hb1⟩
    rw [if_neg HN.out, HV.out]
    have HB1 := Lib.hid hb1
    clear hb1
    go_wp2_with fail
    go_ret2
    exact ⟨by rw [HF.out, HG.out, HV.out]; rfl, HB1.out⟩
end
end Go.Proofs.YtkaccnegdmpofaaGreatDoor
/- Cursors stay by their letters when letters are typed: plain. Conditions: none. -/
namespace Go.Proofs.YtkaccnegdmpofaaGreatDoor
open Go.RowKit
set_option linter.unusedVariables false
theorem textL_app (a b : List LLeaf) : textL (a ++ b) = textL a ++ textL b := by simp [textL]
theorem ahead_at {l : List LLeaf} (hr : Rising l) {n : Nat} (hn : n < l.length) : ahead l l[n].place = n :=
  ahead_of (by omega) (fun k hk hkj => rising_lt hr k n hk hn hkj) (fun k hk hjk => by
    rcases Nat.lt_or_ge n k with h1 | h1
    · exact less_asymm' _ _ (rising_lt hr n k hn hk h1)
    · obtain rfl : k = n := by omega
      exact less_irrefl' _)
/-- Where a cursor is anchored. -/
theorem anch_cases {l : List LLeaf} (hb : BookOk l) {at_ : Int} (h0 : 0 ≤ at_) (h1 : at_ ≤ ((textOf l).size : Int)) :
    (at_ = ((textOf l).size : Int) ∧ anchRes l at_ = ⟨#[]⟩) ∨ (at_ < ((textOf l).size : Int) ∧ ∃ n, ∃ hn : n < l.length, anchRes l at_ = l[n].place ∧ seenB l[n] = true ∧ ((textL (l.take n)).length : Int) = at_) := by
  have hz := bookErr_zero hb
  have hsz : (textOf l).size = (textL l).length := strOf_size _
  have he : anchErr l at_ = 0 := by unfold anchErr; rw [if_neg (by omega), if_neg (by omega)]
  by_cases h : at_ < ((textOf l).size : Int)
  · obtain ⟨o, rfl⟩ : ∃ o : Nat, at_ = o := ⟨at_.toNat, by omega⟩
    obtain ⟨n, hn, e1, e2, e3⟩ := nth_seen l 0 o (by omega)
    refine .inr ⟨h, n, hn, ?_, e2, by omega⟩
    unfold anchRes
    rw [if_pos ⟨he, h⟩, e1]
    simp [List.getD, hn]
  · exact .inl ⟨by omega, by unfold anchRes; rw [if_neg (fun hh => h hh.2)]⟩
theorem anch_ok {l : List LLeaf} (hb : BookOk l) {at_ : Int} (h0 : 0 ≤ at_) (h1 : at_ ≤ ((textOf l).size : Int)) : cpErr (anchRes l at_) = 0 ∧ (posOf l (anchRes l at_) : Int) = at_ := by
  rcases anch_cases hb h0 h1 with ⟨e1, e2⟩ | ⟨e1, n, hn, e2, e3, e4⟩
  · rw [e2]; exact ⟨rfl, by unfold posOf; rw [if_pos (show (⟨#[]⟩ : ByteArray).size = 0 from rfl)]; omega⟩
  · rw [e2]
    have hp := (hb.leafs _ (List.getElem_mem hn)).place
    have hs := place_size hp
    refine ⟨by unfold cpErr; rw [if_neg hs]; exact hp, ?_⟩
    unfold posOf
    rw [if_neg hs, ahead_at hb.rising hn]
    rw [show (textOf (l.take n)).size = (textL (l.take n)).length from strOf_size _]
    exact e4
/-- Letters are put in: a cursor is moved, or not. -/
theorem anch_moves {l a b new : List LLeaf} (hl : l = a ++ b) (hb : BookOk l) (hb2 : BookOk (a ++ new ++ b)) {at_ off : Int} (h0 : 0 ≤ at_) (h1 : at_ ≤ ((textOf l).size : Int)) (ho : ((textL a).length : Int) = off) :
    (posOf (a ++ new ++ b) (anchRes l at_) : Int) = if off ≤ at_ then at_ + (textL new).length else at_ := by
  have hsz : (textOf l).size = (textL l).length := strOf_size _
  have hsl : (textL l).length = (textL a).length + (textL b).length := by rw [hl, textL_app, List.length_append]
  rcases anch_cases hb h0 h1 with ⟨e1, e2⟩ | ⟨e1, n, hn, e2, e3, e4⟩
  · rw [e2]
    unfold posOf
    rw [if_pos (show (⟨#[]⟩ : ByteArray).size = 0 from rfl), show (textOf (a ++ new ++ b)).size = (textL (a ++ new ++ b)).length from strOf_size _, textL_app, textL_app, if_pos (by omega)]
    simp only [List.length_append]
    omega
  · have hp := (hb.leafs _ (List.getElem_mem hn)).place
    have hs := place_size hp
    rw [e2]
    unfold posOf
    rw [if_neg hs]
    by_cases hna : n < a.length
    · have hn2 : n < (a ++ new ++ b).length := by simp; omega
      have e5 : (a ++ new ++ b)[n] = l[n] := by
        subst hl
        rw [List.getElem_append_left (by simp; omega), List.getElem_append_left hna, List.getElem_append_left hna]
      have e6 := ahead_at hb2.rising hn2
      rw [e5] at e6
      rw [e6, show (textOf ((a ++ new ++ b).take n)).size = (textL ((a ++ new ++ b).take n)).length from strOf_size _]
      have e7 : (a ++ new ++ b).take n = l.take n := by
        subst hl
        rw [List.append_assoc, List.take_append_of_le_length (by omega), List.take_append_of_le_length (by omega)]
      rw [e7, if_neg, e4]
      have e8 : a[n] = l[n] := by subst hl; rw [List.getElem_append_left hna]
      have h3 := textL_take (l := a) hna
      rw [e8, if_pos e3] at h3
      have h4 := text_take_le a (n + 1)
      rw [h3, List.length_append] at h4
      have h5 : l.take n = a.take n := by subst hl; rw [List.take_append_of_le_length (by omega)]
      rw [h5] at e4
      simp at h4
      omega
    · have hn2 : n + new.length < (a ++ new ++ b).length := by subst hl; simp at hn ⊢; omega
      have hnb : n - a.length < b.length := by subst hl; simp at hn; omega
      have e5 : (a ++ new ++ b)[n + new.length] = l[n] := by
        subst hl
        rw [List.getElem_append_right (by simp; omega), List.getElem_append_right (by omega)]
        congr 1
        simp; omega
      have e6 := ahead_at hb2.rising hn2
      rw [e5] at e6
      rw [e6, show (textOf ((a ++ new ++ b).take (n + new.length))).size = (textL ((a ++ new ++ b).take (n + new.length))).length from strOf_size _]
      have e7 : (a ++ new ++ b).take (n + new.length) = a ++ new ++ b.take (n - a.length) := by
        rw [List.take_append, List.take_of_length_le (by simp; omega)]
        congr 2
        simp; omega
      have e8 : l.take n = a ++ b.take (n - a.length) := by
        subst hl
        rw [List.take_append, List.take_of_length_le (by omega)]
      rw [e8, textL_app, List.length_append] at e4
      rw [e7, textL_app, textL_app, if_pos (by omega)]
      simp only [List.length_append]
      omega
theorem insR_small {d : LDoc} {who off : Int} {text : ByteArray} : ∀ o ∈ d.insR who off text, o.place.size ≤ 12 := by
  by_cases h : d.insE who off text = 0
  · obtain ⟨h1, h2, h3, h4⟩ := LDoc.ins_ok h
    rw [h3]
    generalize rightOf d.book (idxOf d.book off) = right at *
    generalize leftOf d.book off = left at *
    generalize nOf d.known ⟨who, 0⟩ = n at *
    generalize text.toList = t at *
    clear h h1 h2 h3
    induction t generalizing left n with
    | nil => intro o ho; simp [typedOps] at ho
    | cons c t ih =>
      intro o ho
      rw [typedOps] at ho
      rcases List.mem_cons.1 ho with rfl | ho
      · exact (okPlace (good_of h4.1).check).1
      · exact ih _ _ h4.2 o ho
  · intro o ho
    unfold LDoc.insR at ho
    rw [if_neg h] at ho
    cases ho
theorem insR_len {d : LDoc} {who off : Int} {text : ByteArray} : (d.insR who off text).length ≤ 200 := by
  by_cases h : d.insE who off text = 0
  · obtain ⟨h1, h2, h3, h4⟩ := LDoc.ins_ok h
    rw [h3, typedOps_len, toList_len]
    exact (insErr_zero h2).1
  · unfold LDoc.insR
    rw [if_neg h]; simp
end Go.Proofs.YtkaccnegdmpofaaGreatDoor

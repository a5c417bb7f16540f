/- 6 texts in one: each says ahead of itself what is proved, and its conditions. -/
import Derived.Test.YtobdollnkndmeaaBookLaw
import Derived.Test.YtobdollnkndmeaaDocGo
import Derived.Test.YtobdollnkndmeaaDocHelp
import Derived.Test.YtobdollnkndmeaaEditIns
import Derived.Test.YtobdollnkndmeaaEditLaw
import Derived.Test.YtobdollnkndmeaaEditSpec
import Derived.Test.YtobdollnkndmeaaNthSeen
/- cursor.Anchor, Resolve, Range, walked. Conditions: places that an int may count. -/
namespace Go.Proofs.Ytobdollnkndmeaa
open Go.RowKit
set_option linter.unusedVariables false

theorem empty_yes {p : ByteArray} (h : p.size = 0) : p.toList.isEmpty = true := by
  rw [toList_data, List.isEmpty_iff]
  exact List.eq_nil_of_length_eq_zero (by rw [Array.length_toList]; exact h)
theorem empty_no {p : ByteArray} (h : p.size ≠ 0) : p.toList.isEmpty = false := by
  rw [toList_data]
  cases hl : p.data.toList with
  | nil =>
    have : p.data.toList.length = 0 := by rw [hl]; rfl
    rw [Array.length_toList] at this
    exact absurd this h
  | cons a b => rfl
/-- Where a cursor is, of a book that is right. -/
def posOf (l : List LLeaf) (p : ByteArray) : Nat := if p.size = 0 then (textOf l).size else (textOf (l.take (ahead l p))).size
def cpErr (p : ByteArray) : Int := if p.size = 0 then 0 else placeErr p
def anchErr (l : List LLeaf) (off : Int) : Int := if bookErr l ≠ 0 then bookErr l else if off < 0 ∨ ((textOf l).size : Int) < off then 1 else 0
def anchRes (l : List LLeaf) (off : Int) : ByteArray := if anchErr l off = 0 ∧ off < ((textOf l).size : Int) then (l.getD (nthFrom 0 l off).toNat default).place else ⟨#[]⟩
def resErr (l : List LLeaf) (p : ByteArray) : Int := if bookErr l ≠ 0 then bookErr l else cpErr p
def resVal (l : List LLeaf) (p : ByteArray) : Int := if resErr l p = 0 then (posOf l p : Int) else 0
def rngErr (l : List LLeaf) (p q : ByteArray) : Int := if resErr l p ≠ 0 then resErr l p else if cpErr q ≠ 0 then cpErr q else if posOf l q < posOf l p then 3 else 0
def rngRes (l : List LLeaf) (p q : ByteArray) : ByteArray := if rngErr l p q = 0 then (textOf l).extract (posOf l p) (posOf l q) else ⟨#[]⟩
theorem text_size (l : List LLeaf) : (textOf l).size = (textL l).length := strOf_size _
theorem text_take_le (l : List LLeaf) (i : Nat) : (textL (l.take i)).length ≤ (textL l).length := by
  have e : textL l = textL (l.take i) ++ textL (l.drop i) := by
    unfold textL
    rw [← List.map_append, ← List.filter_append, List.take_append_drop]
  rw [e, List.length_append]; omega
theorem pos_le (l : List LLeaf) (p : ByteArray) : posOf l p ≤ (textOf l).size := by
  unfold posOf
  split
  · exact Nat.le_refl _
  · rw [text_size, text_size]; exact text_take_le l _
theorem place_size {p : ByteArray} (h : placeErr p = 0) : p.size ≠ 0 := by
  intro h0
  unfold placeErr at h
  rw [if_neg (by omega)] at h
  by_cases h1 : Letters p ∧ EndOk p
  · have := h1.2.1; omega
  · rw [if_neg h1] at h; omega
def StrPost (w : World) (s : ByteArray) (k : Int) (e : Ending) (w' : World) : Prop := e = .returned (.tuple #[.string s, errV k]) ∧ Below w.heap.size w w'
def RgLoop (w : World) (p q : ByteArray) (i : Value) (wr : World) : Prop :=
  ∃ k : Nat, k ≤ 2 ∧ i = .int .i64 k ∧ Hid (1 ≤ k → cpErr p = 0) ∧ Hid (2 ≤ k → cpErr q = 0) ∧ Hid (Below w.heap.size w wr)
section
variable (w : World) (A : Option Addr) (c : Nat) (l : List LLeaf) (h : Reads w w.heap.size 3 A l.length (lcells l)) (hs : Sized l) (hn : l.length ≤ c) (hc : c ≤ 9223372036854775807)
include h hs hn hc
set_option maxRecDepth 100000 in
set_option maxHeartbeats 2000000 in
theorem resolve_any (p : ByteArray) (hp : p.size ≤ 9223372036854775807) : Calls Try.prog 22 #[.slice A l.length c, .string p] w (OffPost w (resVal l p) (resErr l p)) := by
  by_cases h0 : p.size = 0
  · have HT := Lib.hid (text_any w A c l h hs (by omega))
    have g1 := empty_yes h0
    have hE : resErr l p = bookErr l := by
      unfold resErr cpErr
      rw [if_pos h0]
      split
      · rfl
      · next h1 => omega
    have HE := Lib.hid hE
    have HV : Hid (resVal l p = ((if bookErr l = 0 then textOf l else ⟨#[]⟩ : ByteArray).size : Int)) := by
      show _ = _
      unfold resVal posOf
      rw [hE, if_pos h0]
      split <;> rfl
    obtain ⟨tx, htx⟩ : ∃ tx, tx = (if bookErr l = 0 then textOf l else ⟨#[]⟩ : ByteArray) := ⟨_, rfl⟩
    have HTX := Lib.hid htx
    clear h hs h0 hE htx
    go_enter Try.func22, Try.ntmps22
    go_wp2_with fail
    refine HT.out.mono ?_
    rintro e w1 ⟨rfl, hb1⟩
    rw [← HTX.out]
    have HB1 := Lib.hid hb1
    clear hb1
    go_wp2_with fail
    go_ret2
    exact ⟨by rw [HV.out, HE.out, ← HTX.out]; rfl, HB1.out⟩
  · have HO := Lib.hid (offset_any w A c l p h hs hn hc hp)
    have g1 := empty_no h0
    have hE : resErr l p = bookReady l p := by unfold resErr cpErr bookReady; rw [if_neg h0]
    have HE := Lib.hid hE
    have HV : Hid (resVal l p = offOf l p) := by show _ = _; unfold resVal offOf posOf; rw [hE, if_neg h0]
    clear h hs h0 hE
    go_enter Try.func22, Try.ntmps22
    go_wp2_with fail
    refine HO.out.mono ?_
    rintro e w1 ⟨rfl, hb1⟩
    have HB1 := Lib.hid hb1
    clear hb1
    go_wp2_with fail
    go_ret2
    exact ⟨by rw [HV.out, HE.out]; rfl, HB1.out⟩
set_option maxRecDepth 100000 in
set_option maxHeartbeats 2000000 in
theorem anchor_any (off : Int) (ho : off ≤ 9223372036854775807) : Calls Try.prog 21 #[.slice A l.length c, .int .i64 off] w (StrPost w (anchRes l off) (anchErr l off)) := by
  have HT := Lib.hid (text_any w A c l h hs (by omega))
  have HR := Lib.hid h
  clear h hs
  by_cases he : bookErr l = 0
  · have HE := Lib.hid he
    have ok := book_ok he
    have hfew := ok.few
    have hts := text_size l
    have htl := textL_le l
    by_cases hb : off < 0 ∨ ((textOf l).size : Int) < off
    · have HF : Hid (anchErr l off = 1) := by show _ = _; unfold anchErr; rw [if_neg (fun x => x he), if_pos hb]
      have HG : Hid (anchRes l off = ⟨#[]⟩) := by show _ = _; unfold anchRes; rw [HF.out, if_neg (fun x => by have := x.1; omega)]
      generalize htx : textOf l = tx at *
      have HTX := Lib.hid htx
      clear htx
      have g1 : (decide (off < 0) || decide ((tx.size : Int) < off)) = true := by simp; omega
      have h300 : tx.size ≤ 300 := by omega
      clear he ok hts htl
      by_cases h1 : off < 0
      · clear hb
        go_enter Try.func21, Try.ntmps21
        go_wp2_with fail
        refine HT.out.mono ?_
        rintro e w1 ⟨rfl, hb1⟩
        rw [if_pos HE.out, HE.out, HTX.out, show errV 0 = .nilIface from rfl]
        have HB1 := Lib.hid hb1
        clear hb1
        go_wp2_with fail
        go_ret2
        exact ⟨by rw [HF.out, HG.out]; rfl, HB1.out⟩
      · have h2 : (tx.size : Int) < off := by omega
        clear hb
        go_enter Try.func21, Try.ntmps21
        go_wp2_with fail
        refine HT.out.mono ?_
        rintro e w1 ⟨rfl, hb1⟩
        rw [if_pos HE.out, HE.out, HTX.out, show errV 0 = .nilIface from rfl]
        have HB1 := Lib.hid hb1
        clear hb1
        go_wp2_with fail
        go_ret2
        exact ⟨by rw [HF.out, HG.out]; rfl, HB1.out⟩
    · have HF : Hid (anchErr l off = 0) := by show _ = _; unfold anchErr; rw [if_neg (fun x => x he), if_neg hb]
      obtain ⟨o, rfl⟩ := Int.eq_ofNat_of_zero_le (show 0 ≤ off by omega)
      by_cases heq : o = (textOf l).size
      · have HG : Hid (anchRes l (o : Int) = ⟨#[]⟩) := by show _ = _; unfold anchRes; rw [if_neg (fun x => by have := x.2; omega)]
        generalize htx : textOf l = tx at *
        have HTX := Lib.hid htx
        clear htx
        subst heq
        have h300 : tx.size ≤ 300 := by omega
        have g0 : decide ((tx.size : Int) < 0) = false := decide_eq_false (by omega)
        have g1 : decide ((tx.size : Int) < (tx.size : Int)) = false := decide_eq_false (by omega)
        have g2 : ((tx.size : Int) == (tx.size : Int)) = true := by simp
        clear he ok hb hts htl
        go_enter Try.func21, Try.ntmps21
        go_wp2_with fail
        refine HT.out.mono ?_
        rintro e w1 ⟨rfl, hb1⟩
        rw [if_pos HE.out, HE.out, HTX.out, show errV 0 = .nilIface from rfl]
        have HB1 := Lib.hid hb1
        clear hb1
        go_wp2_with fail
        go_ret2
        exact ⟨by rw [HF.out, HG.out]; rfl, HB1.out⟩
      · obtain ⟨k, hk, hk1, _, _⟩ := nth_seen l 0 o (by omega)
        rw [Nat.zero_add] at hk1
        have HG : Hid (anchRes l (o : Int) = l[k].place) := by
          show _ = _
          unfold anchRes
          rw [if_pos ⟨HF.out, by omega⟩, hk1]
          simp [List.getD, hk]
        have HN := Lib.hid (fun W (hb : Below w.heap.size w W) => nth_any W A c l (o : Int) ((HR.out.below hb).more hb.size) (by omega) (by omega) ho)
        have HK := Lib.hid hk1
        have HLF : Hid (∀ W, Below w.heap.size w W → ∃ ad, A = some ad ∧ W.cell? (ad.add (k * 3)) = some (.string l[k].place)) := fun W hb => by
          obtain ⟨ad, e, _, c0, _, _⟩ := ((HR.out.below hb)).leaf hk
          exact ⟨ad, e, c0⟩
        generalize htx : textOf l = tx at *
        have HTX := Lib.hid htx
        clear htx
        have h300 : tx.size ≤ 300 := by omega
        have g0 : decide ((o : Int) < 0) = false := decide_eq_false (by omega)
        have g1 : decide ((tx.size : Int) < (o : Int)) = false := decide_eq_false (by omega)
        have g1n : decide (tx.size < o) = false := decide_eq_false (by omega)
        have g2 : ((o : Int) == (tx.size : Int)) = false := by rw [beq_eq_false_iff_ne]; omega
        have k0 : (0 : Int) ≤ (k : Int) := by omega
        have k1 : (k : Int) < (l.length : Int) := by omega
        generalize l[k].place = pk at *
        clear he ok hb hts htl hk1
        go_enter Try.func21, Try.ntmps21
        go_wp2_with fail
        refine HT.out.mono ?_
        rintro e w1 ⟨rfl, hb1⟩
        rw [if_pos HE.out, HE.out, HTX.out, show errV 0 = .nilIface from rfl]
        have HB1 := Lib.hid hb1
        clear hb1
        go_wp2_with fail
        refine (HN.out _ HB1.out).mono ?_
        rintro e w2 ⟨rfl, hb2⟩
        rw [HK.out]
        have HB2 := Lib.hid (HB1.out.trans (hb2.mono HB1.out.size))
        clear hb2
        obtain ⟨ad, rfl, c0⟩ := HLF.out _ HB2.out
        go_wp2_with fail
        go_ret2
        exact ⟨by rw [HF.out, HG.out]; rfl, HB2.out⟩
  · have HV := Lib.hid (errV_ne he)
    have HF : Hid (anchErr l off = bookErr l) := if_pos he
    have HG : Hid (anchRes l off = ⟨#[]⟩) := by show _ = _; unfold anchRes; rw [HF.out, if_neg (fun x => he x.1)]
    have HN := Lib.hid he
    clear he
    go_enter Try.func21, Try.ntmps21
    go_wp2_with fail
    refine HT.out.mono ?_
    rintro e w1 ⟨rfl, hb1⟩
    rw [if_neg HN.out, HV.out]
    have HB1 := Lib.hid hb1
    clear hb1
    go_wp2_with fail
    go_ret2
    exact ⟨by rw [HF.out, HG.out, HV.out]; rfl, HB1.out⟩
end
end Go.Proofs.Ytobdollnkndmeaa
/- Cursors stay by their letters when letters are typed: plain. Conditions: none. -/
namespace Go.Proofs.Ytobdollnkndmeaa
open Go.RowKit
set_option linter.unusedVariables false
theorem textL_app (a b : List LLeaf) : textL (a ++ b) = textL a ++ textL b := by simp [textL]
theorem ahead_at {l : List LLeaf} (hr : Rising l) {n : Nat} (hn : n < l.length) : ahead l l[n].place = n :=
  ahead_of (by omega) (fun k hk hkj => rising_lt hr k n hk hn hkj) (fun k hk hjk => by
    rcases Nat.lt_or_ge n k with h1 | h1
    · exact less_asymm' _ _ (rising_lt hr n k hn hk h1)
    · obtain rfl : k = n := by omega
      exact less_irrefl' _)
/-- Where a cursor is anchored. -/
theorem anch_cases {l : List LLeaf} (hb : BookOk l) {at_ : Int} (h0 : 0 ≤ at_) (h1 : at_ ≤ ((textOf l).size : Int)) :
    (at_ = ((textOf l).size : Int) ∧ anchRes l at_ = ⟨#[]⟩) ∨ (at_ < ((textOf l).size : Int) ∧ ∃ n, ∃ hn : n < l.length, anchRes l at_ = l[n].place ∧ seenB l[n] = true ∧ ((textL (l.take n)).length : Int) = at_) := by
  have hz := bookErr_zero hb
  have hsz : (textOf l).size = (textL l).length := strOf_size _
  have he : anchErr l at_ = 0 := by unfold anchErr; rw [if_neg (by omega), if_neg (by omega)]
  by_cases h : at_ < ((textOf l).size : Int)
  · obtain ⟨o, rfl⟩ : ∃ o : Nat, at_ = o := ⟨at_.toNat, by omega⟩
    obtain ⟨n, hn, e1, e2, e3⟩ := nth_seen l 0 o (by omega)
    refine .inr ⟨h, n, hn, ?_, e2, by omega⟩
    unfold anchRes
    rw [if_pos ⟨he, h⟩, e1]
    simp [List.getD, hn]
  · exact .inl ⟨by omega, by unfold anchRes; rw [if_neg (fun hh => h hh.2)]⟩
theorem anch_ok {l : List LLeaf} (hb : BookOk l) {at_ : Int} (h0 : 0 ≤ at_) (h1 : at_ ≤ ((textOf l).size : Int)) : cpErr (anchRes l at_) = 0 ∧ (posOf l (anchRes l at_) : Int) = at_ := by
  rcases anch_cases hb h0 h1 with ⟨e1, e2⟩ | ⟨e1, n, hn, e2, e3, e4⟩
  · rw [e2]; exact ⟨rfl, by unfold posOf; rw [if_pos (show (⟨#[]⟩ : ByteArray).size = 0 from rfl)]; omega⟩
  · rw [e2]
    have hp := (hb.leafs _ (List.getElem_mem hn)).place
    have hs := place_size hp
    refine ⟨by unfold cpErr; rw [if_neg hs]; exact hp, ?_⟩
    unfold posOf
    rw [if_neg hs, ahead_at hb.rising hn]
    rw [show (textOf (l.take n)).size = (textL (l.take n)).length from strOf_size _]
    exact e4
/-- Letters are put in: a cursor is moved, or not. -/
theorem anch_moves {l a b new : List LLeaf} (hl : l = a ++ b) (hb : BookOk l) (hb2 : BookOk (a ++ new ++ b)) {at_ off : Int} (h0 : 0 ≤ at_) (h1 : at_ ≤ ((textOf l).size : Int)) (ho : ((textL a).length : Int) = off) :
    (posOf (a ++ new ++ b) (anchRes l at_) : Int) = if off ≤ at_ then at_ + (textL new).length else at_ := by
  have hsz : (textOf l).size = (textL l).length := strOf_size _
  have hsl : (textL l).length = (textL a).length + (textL b).length := by rw [hl, textL_app, List.length_append]
  rcases anch_cases hb h0 h1 with ⟨e1, e2⟩ | ⟨e1, n, hn, e2, e3, e4⟩
  · rw [e2]
    unfold posOf
    rw [if_pos (show (⟨#[]⟩ : ByteArray).size = 0 from rfl), show (textOf (a ++ new ++ b)).size = (textL (a ++ new ++ b)).length from strOf_size _, textL_app, textL_app, if_pos (by omega)]
    simp only [List.length_append]
    omega
  · have hp := (hb.leafs _ (List.getElem_mem hn)).place
    have hs := place_size hp
    rw [e2]
    unfold posOf
    rw [if_neg hs]
    by_cases hna : n < a.length
    · have hn2 : n < (a ++ new ++ b).length := by simp; omega
      have e5 : (a ++ new ++ b)[n] = l[n] := by
        subst hl
        rw [List.getElem_append_left (by simp; omega), List.getElem_append_left hna, List.getElem_append_left hna]
      have e6 := ahead_at hb2.rising hn2
      rw [e5] at e6
      rw [e6, show (textOf ((a ++ new ++ b).take n)).size = (textL ((a ++ new ++ b).take n)).length from strOf_size _]
      have e7 : (a ++ new ++ b).take n = l.take n := by
        subst hl
        rw [List.append_assoc, List.take_append_of_le_length (by omega), List.take_append_of_le_length (by omega)]
      rw [e7, if_neg, e4]
      have e8 : a[n] = l[n] := by subst hl; rw [List.getElem_append_left hna]
      have h3 := textL_take (l := a) hna
      rw [e8, if_pos e3] at h3
      have h4 := text_take_le a (n + 1)
      rw [h3, List.length_append] at h4
      have h5 : l.take n = a.take n := by subst hl; rw [List.take_append_of_le_length (by omega)]
      rw [h5] at e4
      simp at h4
      omega
    · have hn2 : n + new.length < (a ++ new ++ b).length := by subst hl; simp at hn ⊢; omega
      have hnb : n - a.length < b.length := by subst hl; simp at hn; omega
      have e5 : (a ++ new ++ b)[n + new.length] = l[n] := by
        subst hl
        rw [List.getElem_append_right (by simp; omega), List.getElem_append_right (by omega)]
        congr 1
        simp; omega
      have e6 := ahead_at hb2.rising hn2
      rw [e5] at e6
      rw [e6, show (textOf ((a ++ new ++ b).take (n + new.length))).size = (textL ((a ++ new ++ b).take (n + new.length))).length from strOf_size _]
      have e7 : (a ++ new ++ b).take (n + new.length) = a ++ new ++ b.take (n - a.length) := by
        rw [List.take_append, List.take_of_length_le (by simp; omega)]
        congr 2
        simp; omega
      have e8 : l.take n = a ++ b.take (n - a.length) := by
        subst hl
        rw [List.take_append, List.take_of_length_le (by omega)]
      rw [e8, textL_app, List.length_append] at e4
      rw [e7, textL_app, textL_app, if_pos (by omega)]
      simp only [List.length_append]
      omega
theorem insR_small {d : LDoc} {who off : Int} {text : ByteArray} : ∀ o ∈ d.insR who off text, o.place.size ≤ 12 := by
  by_cases h : d.insE who off text = 0
  · obtain ⟨h1, h2, h3, h4⟩ := LDoc.ins_ok h
    rw [h3]
    generalize rightOf d.book (idxOf d.book off) = right at *
    generalize leftOf d.book off = left at *
    generalize nOf d.known ⟨who, 0⟩ = n at *
    generalize text.toList = t at *
    clear h h1 h2 h3
    induction t generalizing left n with
    | nil => intro o ho; simp [typedOps] at ho
    | cons c t ih =>
      intro o ho
      rw [typedOps] at ho
      rcases List.mem_cons.1 ho with rfl | ho
      · exact (okPlace (good_of h4.1).check).1
      · exact ih _ _ h4.2 o ho
  · intro o ho
    unfold LDoc.insR at ho
    rw [if_neg h] at ho
    cases ho
theorem insR_len {d : LDoc} {who off : Int} {text : ByteArray} : (d.insR who off text).length ≤ 200 := by
  by_cases h : d.insE who off text = 0
  · obtain ⟨h1, h2, h3, h4⟩ := LDoc.ins_ok h
    rw [h3, typedOps_len, toList_len]
    exact (insErr_zero h2).1
  · unfold LDoc.insR
    rw [if_neg h]; simp
end Go.Proofs.Ytobdollnkndmeaa
/- edit.Do, walked. Conditions: the document is right; the ops can be read, and lie apart from it. -/
namespace Go.Proofs.Ytobdollnkndmeaa
open Go.RowKit
set_option linter.unusedVariables false
/-- An op's dots can be read, and lie apart from the blocks S. -/
def OpFar (w : World) (S : List Nat) (y : OpAt) : Prop := Reads w w.heap.size 2 y.at_ y.op.seen.length (dcells y.op.seen) ∧ y.op.place.size ≤ 9223372036854775807 ∧ (0 < y.op.seen.length → ∀ g ∈ ob y.at_, g ∉ S)
structure DoMid (w : World) (B : Nat) (S : List Nat) (b : Nat) (A : Option Addr) (ys : List OpAt) (st : LDoc) (k : Nat) (wr : World) (S' : List Nat) (D' : DLay) (sk : LDoc) : Prop where
  doc : DocIs wr B S' b sk D'
  only : Only S w wr
  sub : ∀ g ∈ S', g ∈ S ∨ w.heap.size ≤ g
  ok : sk.Ok
  restE : st.doE (ys.map OpAt.op) = sk.doE ((ys.drop k).map OpAt.op)
  restR : st.doR (ys.map OpAt.op) = sk.doR ((ys.drop k).map OpAt.op)
def DoLoop (w : World) (B : Nat) (S : List Nat) (b : Nat) (A : Option Addr) (ys : List OpAt) (st : LDoc) (i : Value) (wr : World) : Prop := ∃ k : Nat, ∃ S' D' sk, k ≤ ys.length ∧ i = .int .i64 k ∧ Hid (DoMid w B S b A ys st k wr S' D' sk)
theorem DocIs.lt {w : World} {B : Nat} {S : List Nat} {b : Nat} {st : LDoc} {D : DLay} (h : DocIs w B S b st D) : ∀ g ∈ S, B ≤ g ∧ g < w.heap.size := h.own
namespace DoMid
variable {w wr w' : World} {B b : Nat} {S S' : List Nat} {A : Option Addr} {ys : List OpAt} {st sk : LDoc} {k : Nat} {D' : DLay}
/-- The world in which the op's box has been laid. -/
theorem boxed (h : DoMid w B S b A ys st k wr S' D' sk) (o : Obj) : DocIs (wr.alloc o) B S' b sk D' := h.doc.below ((Below.refl _ _).alloc (Nat.le_refl _) o)
theorem next (h : DoMid w B S b A ys st k wr S' D' sk) (hk : k < ys.length) (o : Obj) (he : sk.applyE ys[k].op = 0) (ht : DocTo (wr.alloc o) B S' b (sk.apply ys[k].op) w') : ∃ S2 D2, DoMid w B S b A ys st (k + 1) w' S2 D2 (sk.apply ys[k].op) := by
  obtain ⟨S2, D2, h1, h2, h3⟩ := ht
  have hd := List.drop_eq_getElem_cons hk
  have hsz : wr.heap.size ≤ (wr.alloc o).heap.size := by simp
  have hs0 := h.only.size
  refine ⟨S2, D2, h1, (h.only.alloc o).trans_new h2 (fun i hi => h.sub i hi), fun g hg => ?_, LDoc.apply_ok h.ok _, ?_, ?_⟩
  · rcases h3 g hg with h4 | h4
    · exact h.sub g h4
    · exact .inr (by omega)
  · rw [h.restE, hd, List.map_cons, LDoc.doE, if_neg (by omega)]
  · rw [h.restR, hd, List.map_cons, LDoc.doR, if_neg (by omega)]
theorem stop (h : DoMid w B S b A ys st k wr S' D' sk) (hk : k < ys.length) (o : Obj) (he : sk.applyE ys[k].op ≠ 0) (ht : DocTo (wr.alloc o) B S' b sk w') : st.doE (ys.map OpAt.op) = sk.applyE ys[k].op ∧ DocTo w B S b (st.doR (ys.map OpAt.op)) w' := by
  have hd := List.drop_eq_getElem_cons hk
  have hsz : wr.heap.size ≤ (wr.alloc o).heap.size := by simp
  have hs0 := h.only.size
  refine ⟨by rw [h.restE, hd, List.map_cons, LDoc.doE, if_pos he], ?_⟩
  rw [h.restR, hd, List.map_cons, LDoc.doR, if_pos he]
  exact DocTo.back (h.only.alloc o) h.sub ht
theorem fin (h : DoMid w B S b A ys st k wr S' D' sk) (hk : ys.length ≤ k) : st.doE (ys.map OpAt.op) = 0 ∧ DocTo w B S b (st.doR (ys.map OpAt.op)) wr := by
  have hd : ys.drop k = [] := List.drop_eq_nil_of_le hk
  refine ⟨by rw [h.restE, hd]; rfl, ?_⟩
  rw [h.restR, hd]
  exact ⟨S', D', h.doc, h.only, h.sub⟩
end DoMid
def DoPost (w : World) (B : Nat) (S : List Nat) (b : Nat) (k : Int) (st : LDoc) (e : Ending) (w' : World) : Prop := e = .returned (errV k) ∧ DocTo w B S b st w'
set_option maxRecDepth 100000 in
set_option maxHeartbeats 8000000 in
theorem do_any (w : World) (B : Nat) (S : List Nat) (b : Nat) (st : LDoc) (D : DLay) (h : DocIs w B S b st D) (ok : st.Ok) (A : Option Addr) (c : Nat) (ys : List OpAt) (hr : Reads w w.heap.size 6 A ys.length (ocells ys)) (ha : 0 < ys.length → ∀ g ∈ ob A, g ∉ S)
    (hf : ∀ y ∈ ys, OpFar w S y) (hl : ys.length ≤ 1000000) :
    Calls Try.prog 18 #[.pointer (some ⟨b, 0, none⟩), .slice A ys.length c] w (DoPost w B S b (st.doE (ys.map OpAt.op)) (st.doR (ys.map OpAt.op))) := by
  have HR := Lib.hid hr
  have HA := Lib.hid ha
  have HF := Lib.hid hf
  have HM0 : Hid (DoMid w B S b A ys st 0 w S D st) := ⟨h, Only.refl _ _, fun g hg => .inl hg, ok, rfl, rfl⟩
  clear hr ha hf h ok
  go_enter Try.func18, Try.ntmps18
  go_wp2_with fail
  go_loopw [11] (fun i wr => DoLoop w B S b A ys st i wr) (fun i _ => ys.length - (intOf i).toNat)
  case atStart => exact ⟨0, _, _, _, Nat.zero_le _, rfl, HM0.out⟩
  case round =>
    obtain ⟨k, S', D', sk, hk, rfl, HM⟩ := hrel
    have k0 : (0 : Int) ≤ (k : Int) := by omega
    by_cases hlt : k < ys.length
    · have k1 : (k : Int) < (ys.length : Int) := by omega
      have hro := Reads.only HR.out HM.out.only HA.out
      obtain ⟨ad, rfl, hab, d0, d1, d2, d3, d4, d5⟩ := hro.op hlt
      obtain ⟨f1, f2, f3⟩ := HF.out _ (List.getElem_mem hlt)
      have f1' := Reads.only f1 HM.out.only f3
      have hfar : 0 < ys[k].op.seen.length → ∀ g ∈ ob ys[k].at_, g ∉ S' := fun hn g hg hm => by
        rcases HM.out.sub g hm with h4 | h4
        · exact f3 hn g hg h4
        · obtain ⟨ad', e, hb, _⟩ := f1.2 hn
          rw [e] at hg; simp [ob] at hg; omega
      have HAP : Hid (∀ o : Obj, Calls Try.prog 12 #[.pointer (some ⟨b, 0, none⟩), ys[k].op.val ys[k].at_ ys[k].cap] (wr.alloc o) (ApplyPost (wr.alloc o) B S' b (sk.applyB ys[k].op) (sk.applyE ys[k].op) (sk.apply ys[k].op))) := fun o =>
        apply_doc (wr.alloc o) B S' b sk D' (HM.out.boxed o) HM.out.ok ys[k].op ys[k].at_ ys[k].cap f2 ((f1'.alloc (Nat.le_refl _) o).more (by simp)) hfar
      have HNX : Hid (∀ (he : sk.applyE ys[k].op = 0) (o : Obj) (w' : World), DocTo (wr.alloc o) B S' b (sk.apply ys[k].op) w' → ∃ S2 D2, DoMid w B S b (some ad) ys st (k + 1) w' S2 D2 (sk.apply ys[k].op)) := fun he o w' ht => HM.out.next hlt o he ht
      have HST : Hid (∀ (he : sk.applyE ys[k].op ≠ 0) (o : Obj) (w' : World), DocTo (wr.alloc o) B S' b sk w' → st.doE (ys.map OpAt.op) = sk.applyE ys[k].op ∧ DocTo w B S b (st.doR (ys.map OpAt.op)) w') := fun he o w' ht => HM.out.stop hlt o he ht
      have HBAD := Lib.hid (fun he : sk.applyE ys[k].op ≠ 0 => LDoc.applyE_bad (d := sk) (o := ys[k].op) rfl he)
      clear f1 f1' f2 f3 hfar hro hab
      generalize ys[k] = y at *
      have HE0 : errV 0 = .nilIface := rfl
      by_cases he : sk.applyE y.op = 0
      · have HNY := Lib.hid (HNX.out he)
        rw [he] at HAP
        clear HST HBAD he HNX
        generalize sk.apply y.op = sk2 at *
        generalize sk.applyB y.op = bb at *
        obtain ⟨⟨⟨who, n⟩, what, p, letter, seen⟩, ya, yc⟩ := y
        unfold LOp.val at HAP
        simp only at d0 d1 d2 d3 d4 d5 HAP
        go_wp2_with fail
        refine (HAP.out _).mono ?_
        rintro e w2 ⟨rfl, ht⟩
        have HN2 := Lib.hid (HNY.out _ _ ht)
        rw [HE0]
        clear ht HNY HAP
        go_wp2_with fail
        go_roundw
        case rel =>
          obtain ⟨S2, D2, hfin⟩ := HN2.out
          exact ⟨k + 1, S2, D2, sk2, by omega, by go_num, hfin⟩
        case measure => simp [intOf]; omega
      · obtain ⟨_, hb, hs⟩ := HBAD.out he
        have HSU := Lib.hid (HST.out he)
        have HV := Lib.hid (errV_ne he)
        rw [hb, hs] at HAP
        clear HNX HBAD he hb hs HST
        generalize sk.applyE y.op = ke at *
        obtain ⟨⟨⟨who, n⟩, what, p, letter, seen⟩, ya, yc⟩ := y
        unfold LOp.val at HAP
        simp only at d0 d1 d2 d3 d4 d5 HAP
        go_wp2_with fail
        refine (HAP.out _).mono ?_
        rintro e w2 ⟨rfl, ht⟩
        have HN2 := Lib.hid (HSU.out _ _ ht)
        rw [HV.out]
        clear ht HSU HAP
        go_wp2_with fail
        go_ret
        obtain ⟨n1, n2⟩ := HN2.out
        exact ⟨by rw [n1, HV.out]; rfl, n2⟩
    · have k1 : ¬ (k : Int) < (ys.length : Int) := by omega
      obtain ⟨f1, f2⟩ := HM.out.fin (by omega)
      have F1 := Lib.hid f1
      have F2 := Lib.hid f2
      clear f1 f2
      go_wp2_with fail
      go_ret
      exact ⟨by rw [F1.out]; rfl, F2.out⟩
end Go.Proofs.Ytobdollnkndmeaa
/- edit.Insert, walked. Conditions: the document is right; the numbers are of 64 bits. -/
namespace Go.Proofs.Ytobdollnkndmeaa
open Go.RowKit
set_option linter.unusedVariables false
/-- Ops, of the call's own, and an error. -/
def EditPost (w : World) (k : Int) (l : List LOp) (e : Ending) (w' : World) : Prop :=
  ∃ V c ys, e = .returned (.tuple #[.slice V ys.length c, errV k]) ∧ ys.map OpAt.op = l ∧ OwnOps w' w.heap.size V c ys ∧ Below w.heap.size w w'
theorem edit_bad {w w' : World} {k : Int} (hb : Below w.heap.size w w') : EditPost w k [] (.returned (.tuple #[.slice none 0 0, errV k])) w' := ⟨none, 0, [], rfl, rfl, ⟨Own.nil _ _ _ _, by simp⟩, hb⟩
set_option maxRecDepth 100000 in
set_option maxHeartbeats 4000000 in
theorem insert_any (w : World) (B : Nat) (S : List Nat) (b : Nat) (st : LDoc) (D : DLay) (h : DocIs w B S b st D) (ok : st.Ok) (who off : Int) (text : ByteArray) (hw0 : -9223372036854775808 ≤ who) (hw1 : who ≤ 9223372036854775807) (ho : off ≤ 9223372036854775807) (ht : text.size ≤ 9223372036854775807) :
    Calls Try.prog 17 #[.pointer (some ⟨b, 0, none⟩), .int .i64 who, .int .i64 off, .string text] w (EditPost w (st.insE who off text) (st.insR who off text)) := by
  have HN := Lib.hid (newMk_any w B S b st D h ok who hw0 hw1)
  have HD := Lib.hid h
  have HOK := Lib.hid ok
  have HE0 : errV 0 = .nilIface := rfl
  have HE1 := errV_ne (show (1 : Int) ≠ 0 by decide)
  clear h ok
  by_cases hw : LDoc.whoE who = 0
  · have HN : Hid (Calls Try.prog 46 #[.pointer (some ⟨b, 0, none⟩), .int .i64 who] w fun e w' => ∃ b, e = .returned (.tuple #[.pointer (some ⟨b, 0, none⟩), .nilIface]) ∧ MkIs w' w.heap.size b (st.maker who) none 0 [] ∧ Below w.heap.size w w') :=
      HN.out.mono fun e w' hh => by
        rcases hh with ⟨_, h1⟩ | ⟨h1, _⟩
        · exact h1
        · exact absurd hw h1
    have HIE : Hid (st.insE who off text = ((st.maker who).ins st.book off text).2) := by show _ = _; unfold LDoc.insE; rw [if_neg (by omega)]
    have HIR : Hid (st.insR who off text = if ((st.maker who).ins st.book off text).2 = 0 then ((st.maker who).ins st.book off text).1.ops else []) := by show _ = _; unfold LDoc.insR; rw [HIE.out]
    have hmn : 0 ≤ (st.maker who).n ∧ (st.maker who).n ≤ 9999 := by
      obtain ⟨k, hk, _, e, h1, h2⟩ := nOf_known HOK.out.known hw
      exact ⟨by rw [e] at h1; exact h1, by rw [e] at h2; exact h2⟩
    have hmo : (st.maker who).ops.length = 0 := rfl
    clear hw
    generalize hr : (st.maker who).ins st.book off text = r at *
    obtain ⟨m', k⟩ := r
    simp only at HIE HIR
    have HRR := Lib.hid hr
    clear hr
    have hmn0 := hmn.1
    have hmn1 := hmn.2
    clear hmn
    generalize st.maker who = m at *
    rw [HIE.out, HIR.out]
    clear HIE HIR
    generalize hres : (if k = 0 then m'.ops else []) = res
    have HRES := Lib.hid hres
    clear hres
    go_enter Try.func17, Try.ntmps17
    go_wp2_with fail
    refine HN.out.mono ?_
    rintro e w1 ⟨bm, rfl, hm, hb⟩
    have HM := Lib.hid hm
    have HB1 := Lib.hid hb
    have HBK := Lib.hid (book_doc w1 _ _ _ _ _ (HD.out.below hb) HOK.out)
    clear hm hb HN
    go_wp2_with fail
    refine HBK.out.mono ?_
    rintro e w2 ⟨V, c, rfl, hO, hb⟩
    have HB2 := Lib.hid (HB1.out.trans (hb.mono HB1.out.size))
    have HM2 := Lib.hid (HM.out.below hb)
    have hs2 := HB2.out.size
    have HI : Hid (Calls Try.prog 48 #[.pointer (some ⟨bm, 0, none⟩), .slice V st.book.length c, .int .i64 off, .string text] w2 fun e w' => e = .returned (errV k) ∧ MkTo w2 w.heap.size bm none m' w') := by
      have := mkIns_any w2 w.heap.size bm m none 0 [] HM2.out hs2 V c st.book hO.reads HOK.out.book off ho text ht hmn0 (by omega) (by omega)
      rw [HRR.out] at this
      exact this
    obtain ⟨ev, hev⟩ : ∃ ev, ev = errV k := ⟨_, rfl⟩
    rw [← hev] at HI
    have HEV := Lib.hid hev
    clear hO hb HBK HM hev
    go_wp2_with fail
    refine HI.out.mono ?_
    rintro e w3 ⟨rfl, ht3⟩
    have HB3 := Lib.hid (HB2.out.trans (MkTo.below HM2.out ht3 (Nat.le_refl _) hs2))
    obtain ⟨V', c', ys', hm3, _, _⟩ := ht3
    have HM3 := Lib.hid hm3
    have HDN := Lib.hid (mkDone_any w3 _ _ _ _ _ _ hm3 k)
    rw [← HEV.out] at HDN
    clear hm3 HI
    go_wp2_with fail
    refine HDN.out.mono ?_
    rintro e w4 ⟨rfl, rfl⟩
    have HF : Hid (∃ V2 c2 ys2, (if k = 0 then Value.slice V' ys'.length c' else .slice none 0 0) = .slice V2 ys2.length c2 ∧ ys2.map OpAt.op = (if k = 0 then m'.ops else []) ∧ OwnOps w4 w.heap.size V2 c2 ys2) := by
      by_cases hk : k = 0
      · rw [if_pos hk, if_pos hk]; exact ⟨_, _, _, rfl, HM3.out.same, HM3.out.ops⟩
      · rw [if_neg hk, if_neg hk]; exact ⟨none, 0, [], rfl, rfl, ⟨Own.nil _ _ _ _, by simp⟩⟩
    obtain ⟨V2, c2, ys2, f1, f2, f3⟩ := HF.out
    rw [f1]
    have F2 := Lib.hid f2
    have F3 := Lib.hid f3
    clear HF f1 f2 f3 HDN
    go_wp2_with fail
    go_ret2
    exact ⟨V2, c2, ys2, by rw [← HEV.out]; rfl, by rw [← HRES.out]; exact F2.out, F3.out, HB3.out⟩
  · have HN : Hid (Calls Try.prog 46 #[.pointer (some ⟨b, 0, none⟩), .int .i64 who] w fun e w' => e = .returned (.tuple #[.pointer none, errV 1]) ∧ Below w.heap.size w w') :=
      HN.out.mono fun e w' hh => by
        rcases hh with ⟨h1, _⟩ | ⟨_, h1⟩
        · exact absurd h1 hw
        · exact h1
    have HIE : Hid (st.insE who off text = 1) := if_pos hw
    have HIR : Hid (st.insR who off text = []) := by show _ = _; unfold LDoc.insR; rw [HIE.out, if_neg (by decide)]
    rw [HIE.out, HIR.out]
    rw [HE1] at HN
    clear hw HIE HIR
    go_enter Try.func17, Try.ntmps17
    go_wp2_with fail
    refine HN.out.mono ?_
    rintro e w1 ⟨rfl, hb⟩
    have HB1 := Lib.hid hb
    clear hb
    go_wp2_with fail
    go_ret2
    have := edit_bad (k := 1) HB1.out
    rw [HE1] at this
    exact this
end Go.Proofs.Ytobdollnkndmeaa
/- A row of ops is applied to a document, whatever comes of it: the round of such a loop. Plain, and by the contract of Apply. Conditions: the ops can be read. -/
namespace Go.Proofs.Ytobdollnkndmeaa
open Go.RowKit
set_option linter.unusedVariables false
/-- A document of the call's own to which at most n ops were applied. -/
def DocAt (w : World) (B b n : Nat) (wr : World) : Prop := ∃ st S D, DocIs wr B S b st D ∧ st.Ok ∧ Says st.ops st ∧ Numbered st.ops ∧ st.ops.length ≤ n ∧ Below w.heap.size w wr
def DocLoop (w : World) (B b : Nat) (i : Value) (wr : World) : Prop := ∃ k : Nat, k ≤ 60 ∧ i = .int .i64 k ∧ Hid (DocAt w B b k wr)
theorem DocAt.new {w w' : World} {B b : Nat} {S : List Nat} {D : DLay} (h : DocIs w' B S b LDoc.new D) (hb : Below w.heap.size w w') (n : Nat) : DocAt w B b n w' := ⟨_, S, D, h, LDoc.new_ok, Says.new, Numbered.nil, Nat.zero_le _, hb⟩
theorem DocAt.more {w wr : World} {B b n m : Nat} (h : DocAt w B b n wr) (hm : n ≤ m) : DocAt w B b m wr := by
  obtain ⟨st, S, D, h1, h2, h3, h4, h5, h6⟩ := h
  exact ⟨st, S, D, h1, h2, h3, h4, by omega, h6⟩
theorem DocAt.round {w wr : World} {B b n : Nat} (h : DocAt w B b n wr) (hB : w.heap.size ≤ B) {A : Option Addr} {ys : List OpAt} (hr : Reads w w.heap.size 6 A ys.length (ocells ys)) (hg : ∀ y ∈ ys, y.Good w) {k : Nat} (hk : k < ys.length) :
    ∃ ad who nn what p letter seen ya yc, A = some ad ∧ wr.cell? (ad.add (k * 6)) = some (.int .i64 who) ∧ wr.cell? ⟨(ad.add (k * 6)).block, (ad.add (k * 6)).off + 1, none⟩ = some (.int .i64 nn) ∧ wr.cell? ⟨(ad.add (k * 6)).block, (ad.add (k * 6)).off + 2, none⟩ = some (.int .i64 what) ∧
      wr.cell? ⟨(ad.add (k * 6)).block, (ad.add (k * 6)).off + 3, none⟩ = some (.string p) ∧ wr.cell? ⟨(ad.add (k * 6)).block, (ad.add (k * 6)).off + 4, none⟩ = some (.int .i64 letter) ∧ wr.cell? ⟨(ad.add (k * 6)).block, (ad.add (k * 6)).off + 5, none⟩ = some (.slice ya seen yc) ∧
      Calls Try.prog 12 #[.pointer (some ⟨b, 0, none⟩), .agg #[.int .i64 who, .int .i64 nn, .int .i64 what, .string p, .int .i64 letter, .slice ya seen yc]] wr (fun e w' => (∃ (is : Bool) (ke : Int), e = .returned (.tuple #[.bool is, errV ke])) ∧ DocAt w B b (n + 1) w') := by
  obtain ⟨st, S, D, hd, hok, hs, hn, hl, hbw⟩ := h
  obtain ⟨ad, rfl, hab, c0', c1', c2', c3', c4', c5'⟩ := ((hr.below hbw).more hbw.size).op hk
  have hgood := (hg _ (List.getElem_mem hk)).below hbw
  have hps := hgood.2.1
  have hfar : 0 < ys[k].op.seen.length → ∀ g ∈ ob ys[k].at_, g ∉ S := (hg _ (List.getElem_mem hk)).1.far (fun g hg => by have := (hd.own g hg).1; omega)
  have HA := apply_doc wr _ _ _ _ _ hd hok ys[k].op ys[k].at_ ys[k].cap (by unfold maxLen at hps; omega) hgood.1 hfar
  refine ⟨ad, _, _, _, _, _, _, _, _, rfl, c0', c1', c2', c3', c4', c5', HA.mono ?_⟩
  rintro e w' ⟨rfl, S', D', h1, h2, h3⟩
  refine ⟨⟨_, _, rfl⟩, _, S', D', h1, LDoc.apply_ok hok _, LDoc.apply_says hok hs _, LDoc.apply_numbered hok hs hn _, ?_, hbw.trans (h2.below hbw.size (fun g hg => by have := (hd.own g hg).1; omega))⟩
  rcases LDoc.apply_three (d := st) ys[k].op with ⟨_, _, q⟩ | ⟨_, _, q⟩ | ⟨_, _, q⟩
  · rw [q]; simp; omega
  · rw [q]; omega
  · rw [q]; omega
/-- What came of the ops is far from older rows: they read as before. -/
theorem DocAt.below {w wr : World} {B b n : Nat} (h : DocAt w B b n wr) : Below w.heap.size w wr := by
  obtain ⟨st, S, D, h1, h2, h3, h4, h5, h6⟩ := h
  exact h6
end Go.Proofs.Ytobdollnkndmeaa
/- A closed fact that many laws begin with: what is typed into a new document; and ops that a call has laid lie apart from a document. Conditions: none. -/
namespace Go.Proofs.Ytobdollnkndmeaa
open Go.RowKit
set_option linter.unusedVariables false
theorem sized_ok {l : List LLeaf} (h : BookOk l) : Sized l := fun x hx => by have := place_small (h.leafs x hx).place; omega
theorem ops_apart {w1 w2 : World} {B N b : Nat} {S : List Nat} {st : LDoc} {D : DLay} (h : DocIs w1 B S b st D) (hN : w1.heap.size ≤ N) {V : Option Addr} {c : Nat} {ys : List OpAt} (ho : OwnOps w2 N V c ys) (hp : ∀ o ∈ ys.map OpAt.op, o.place.size ≤ 12) :
    (0 < ys.length → ∀ g ∈ ob V, g ∉ S) ∧ ∀ y ∈ ys, OpFar w2 S y := by
  refine ⟨fun _ g hg hm => ?_, fun y hy => ⟨(ho.seen y hy).reads, ?_, fun _ g hg hm => ?_⟩⟩
  · have := (ho.row.lt g hg).1; have := (h.own g hm).2; omega
  · have := hp y.op (List.mem_map.2 ⟨y, hy, rfl⟩); omega
  · have := ((ho.seen y hy).lt g hg).1; have := (h.own g hm).2; omega
/-- edit.Do of ops that edit.Insert has made, on the same document. -/
theorem do_ins {w7 w8 : World} {B b : Nat} {S : List Nat} {st : LDoc} {D : DLay} (h : DocIs w7 B S b st D) (ok : st.Ok) {who off : Int} {text : ByteArray} {V : Option Addr} {c : Nat} {zs : List OpAt} (hz : zs.map OpAt.op = st.insR who off text) (ho : OwnOps w8 w7.heap.size V c zs) (hb : Below w7.heap.size w7 w8) :
    Calls Try.prog 18 #[.pointer (some ⟨b, 0, none⟩), .slice V zs.length c] w8 (fun e w' => e = .returned (errV (st.doE (st.insR who off text))) ∧ DocTo w8 B S b (st.doR (st.insR who off text)) w') := by
  obtain ⟨a1, a2⟩ := ops_apart h (Nat.le_refl _) ho (by rw [hz]; exact insR_small)
  have hl : zs.length ≤ 200 := by have := insR_len (d := st) (who := who) (off := off) (text := text); rw [← hz, List.length_map] at this; exact this
  have := do_any w8 B S b st D (h.below hb) ok V c zs ho.row.reads a1 a2 (by omega)
  rw [hz] at this
  exact this
def hiT : ByteArray := ⟨#[104, 105]⟩
def hiDoc : LDoc := LDoc.new.doR (LDoc.new.insR 1 0 hiT)
theorem hi_ins : LDoc.new.insE 1 0 hiT = 0 := by decide +kernel
theorem hi_do : LDoc.new.doE (LDoc.new.insR 1 0 hiT) = 0 := by decide +kernel
theorem hi_text : textOf hiDoc.book = hiT := by decide +kernel
theorem hi_ok : hiDoc.Ok := LDoc.doR_ok _ LDoc.new_ok
end Go.Proofs.Ytobdollnkndmeaa

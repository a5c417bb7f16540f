/- 9 texts in one: each says ahead of itself what is proved, and its conditions. -/
import Derived.Deep.CutBlock
import Derived.Deep.RegionHeld3
import Derived.Test.YtnmmnejoldbeiaaGreatDoorBookAt
import Derived.Test.YtnmmnejoldbeiaaGreatDoorBookLaw
import Derived.Test.YtnmmnejoldbeiaaGreatDoorDocHelp
import Derived.Test.YtnmmnejoldbeiaaGreatDoorEditLaw
import Derived.Test.YtnmmnejoldbeiaaGreatDoorLetter
import Derived.Test.YtnmmnejoldbeiaaGreatDoorNthSeen
/- Is a byte of a text no letter? slices.ContainsFunc over bytes, walked. Conditions: stated with each. -/
namespace Go.Proofs.YtnmmnejoldbeiaaGreatDoor
open Go.RowKit
set_option linter.unusedVariables false
theorem bs_at {l : List UInt8} {k : Nat} (h : k < l.length) : (bs l)[k]? = some (.int .u8 l[k].toNat) := by simp [bs, h]
theorem Reads.byte {w : World} {B : Nat} {A : Option Addr} {l : List UInt8} (h : Reads w B 1 A l.length (bs l)) {k : Nat} (hk : k < l.length) : ∃ ad, A = some ad ∧ ad.block < B ∧ w.cell? (ad.add k) = some (.int .u8 l[k].toNat) := by
  obtain ⟨ad, e, hb, hc⟩ := h.2 (by omega)
  exact ⟨ad, e, hb, hc _ _ (bs_at hk)⟩
def FoundCPost (w : World) (l : List UInt8) (e : Ending) (w' : World) : Prop := ∃ k : Int, e = .returned (.int .i64 k) ∧ (decide (0 ≤ k) = l.any badC) ∧ -1 ≤ k ∧ k ≤ l.length ∧ w' = w
/-- A text turned into bytes reads as it is. -/
theorem conv_reads (w : World) (s : ByteArray) : ∃ C cs fr, (convert 9 109 (.string s)).run Tryz.prog w = .ok (.slice (some ⟨w.heap.size, 0, none⟩) s.size C) (w.drew.alloc (.cells cs 5 fr)) ∧
    Reads (w.drew.alloc (.cells cs 5 fr)) (w.drew.alloc (.cells cs 5 fr)).heap.size 1 (some ⟨w.heap.size, 0, none⟩) s.size (bs s.toList) := by
  obtain ⟨C, cs, fr, h1, h2⟩ := conv_bytes w s
  refine ⟨C, cs, fr, h1, by rw [bs_len, toList_len]; omega, fun hn => ⟨_, rfl, by simp, fun j u hu => ?_⟩⟩
  by_cases hj : j < s.size
  · have h3 := h2 j hj
    have e1 : (⟨w.heap.size, 0, none⟩ : Addr).add j = ⟨w.heap.size, j, none⟩ := by
      unfold Addr.add
      by_cases hj : j = 0 <;> simp [hj]
    have hu2 := bs_at (l := s.toList) (k := j) (by rw [toList_len]; exact hj)
    rw [hu2] at hu
    obtain rfl := Option.some.inj hu
    rw [e1]
    refine (show (w.drew.alloc (.cells cs 5 fr)).cell? ⟨w.heap.size, j, none⟩ = (w.alloc (.cells cs 5 fr)).cell? ⟨w.heap.size, j, none⟩ from World.cell?_of_block ((heap_alloc_new w.drew _).trans (heap_alloc_new w _).symm)).trans (h3.trans ?_)
    rw [byteAt_in hj]
    have e2 : s.toList[j]'(by rw [toList_len]; exact hj) = s[j] := by simp [ByteArray.toList_eq]; rfl
    rw [e2]
  · rw [List.getElem?_eq_none (by rw [bs_len, toList_len]; omega)] at hu
    cases hu
end Go.Proofs.YtnmmnejoldbeiaaGreatDoor
/- (*edit.Maker).Add and edit.NewMaker, walked. Conditions: the document is right; the maker's number is small. -/
namespace Go.Proofs.YtnmmnejoldbeiaaGreatDoor
open Go.RowKit
set_option linter.unusedVariables false
namespace MkIs
variable {w w' : World} {B b : Nat} {m : LMk} {V : Option Addr} {c : Nat} {ys : List OpAt}
end MkIs
theorem nOf_known {l : List Int} (h : vecErr l = 0) {who : Int} (hw : LDoc.whoE who = 0) : ∃ (k : Nat) (hk : k < l.length), who = (k : Int) + 1 ∧ l[k] = nOf l ⟨who, 0⟩ ∧ 0 ≤ l[k] ∧ l[k] ≤ 9999 := by
  obtain ⟨h1, h2⟩ := vec_ok h
  unfold LDoc.whoE at hw
  split at hw
  · omega
  obtain ⟨k, rfl⟩ : ∃ k : Nat, who = (k : Int) + 1 := ⟨(who - 1).toNat, by omega⟩
  have hk : k < l.length := by omega
  refine ⟨k, hk, rfl, ?_, h2 _ (List.getElem_mem hk)⟩
  unfold nOf
  rw [show ((k : Int) + 1 - 1).toNat = k by omega]
  simp [List.getD, hk]
end Go.Proofs.YtnmmnejoldbeiaaGreatDoor
/- (*edit.Maker).Insert, walked. Conditions: the book is right; the maker's number is small. -/
namespace Go.Proofs.YtnmmnejoldbeiaaGreatDoor
open Go.RowKit
set_option linter.unusedVariables false
namespace InsMid
variable {w wr w' : World} {B b : Nat} {V V' : Option Addr} {m mk : LMk} {right left lk : ByteArray} {t : List UInt8} {k c' : Nat} {ys' : List OpAt}
end InsMid
theorem nth_leaf {l : List LLeaf} {off : Int} (h0 : 0 < off) (h1 : off ≤ ((textOf l).size : Int)) : ∃ n, ∃ hn : n < l.length, nthFrom 0 l (off - 1) = (n : Int) ∧ idxOf l off = n + 1 ∧ leftOf l off = l[n].place := by
  have hsz : (textOf l).size = (textL l).length := strOf_size _
  obtain ⟨o, rfl⟩ : ∃ o : Nat, off = (o : Int) + 1 := ⟨(off - 1).toNat, by omega⟩
  obtain ⟨n, hn, e1, e2, e3⟩ := nth_seen l 0 o (by omega)
  have e0 : (o : Int) + 1 - 1 = (o : Int) := by omega
  have en : (nthFrom 0 l ((o : Int) + 1 - 1)).toNat = n := by rw [e0, e1]; omega
  refine ⟨n, hn, by rw [e0, e1]; omega, ?_, ?_⟩
  · unfold idxOf; rw [if_pos h0, en]
  · unfold leftOf; rw [if_pos h0, en]; simp [List.getD, hn]
end Go.Proofs.YtnmmnejoldbeiaaGreatDoor
/- edit.Insert, walked. Conditions: the document is right; the numbers are of 64 bits. -/
namespace Go.Proofs.YtnmmnejoldbeiaaGreatDoor
open Go.RowKit
set_option linter.unusedVariables false
/-- Ops, of the call's own, and an error. -/
def EditPost (w : World) (k : Int) (l : List LOp) (e : Ending) (w' : World) : Prop :=
  ∃ V c ys, e = .returned (.tuple #[.slice V ys.length c, errV k]) ∧ ys.map OpAt.op = l ∧ OwnOps w' w.heap.size V c ys ∧ Below w.heap.size w w'
theorem edit_bad {w w' : World} {k : Int} (hb : Below w.heap.size w w') : EditPost w k [] (.returned (.tuple #[.slice none 0 0, errV k])) w' := ⟨none, 0, [], rfl, rfl, ⟨Own.nil _ _ _ _, by simp⟩, hb⟩
end Go.Proofs.YtnmmnejoldbeiaaGreatDoor
/- edit.Do, walked. Conditions: the document is right; the ops can be read, and lie apart from it. -/
namespace Go.Proofs.YtnmmnejoldbeiaaGreatDoor
open Go.RowKit
set_option linter.unusedVariables false
/-- An op's dots can be read, and lie apart from the blocks S. -/
def OpFar (w : World) (S : List Nat) (y : OpAt) : Prop := Reads w w.heap.size 2 y.at_ y.op.seen.length (dcells y.op.seen) ∧ y.op.place.size ≤ 9223372036854775807 ∧ (0 < y.op.seen.length → ∀ g ∈ ob y.at_, g ∉ S)
structure DoMid (w : World) (B : Nat) (S : List Nat) (b : Nat) (A : Option Addr) (ys : List OpAt) (st : LDoc) (k : Nat) (wr : World) (S' : List Nat) (D' : DLay) (sk : LDoc) : Prop where
  doc : DocIs wr B S' b sk D'
  only : Only S w wr
  sub : ∀ g ∈ S', g ∈ S ∨ w.heap.size ≤ g
  ok : sk.Ok
  restE : st.doE (ys.map OpAt.op) = sk.doE ((ys.drop k).map OpAt.op)
  restR : st.doR (ys.map OpAt.op) = sk.doR ((ys.drop k).map OpAt.op)
def DoLoop (w : World) (B : Nat) (S : List Nat) (b : Nat) (A : Option Addr) (ys : List OpAt) (st : LDoc) (i : Value) (wr : World) : Prop := ∃ k : Nat, ∃ S' D' sk, k ≤ ys.length ∧ i = .int .i64 k ∧ Hid (DoMid w B S b A ys st k wr S' D' sk)
theorem DocIs.lt {w : World} {B : Nat} {S : List Nat} {b : Nat} {st : LDoc} {D : DLay} (h : DocIs w B S b st D) : ∀ g ∈ S, B ≤ g ∧ g < w.heap.size := h.own
namespace DoMid
variable {w wr w' : World} {B b : Nat} {S S' : List Nat} {A : Option Addr} {ys : List OpAt} {st sk : LDoc} {k : Nat} {D' : DLay}
/-- The world in which the op's box has been laid. -/
theorem boxed (h : DoMid w B S b A ys st k wr S' D' sk) (o : Obj) : DocIs (wr.alloc o) B S' b sk D' := h.doc.below ((Below.refl _ _).alloc (Nat.le_refl _) o)
theorem next (h : DoMid w B S b A ys st k wr S' D' sk) (hk : k < ys.length) (o : Obj) (he : sk.applyE ys[k].op = 0) (ht : DocTo (wr.alloc o) B S' b (sk.apply ys[k].op) w') : ∃ S2 D2, DoMid w B S b A ys st (k + 1) w' S2 D2 (sk.apply ys[k].op) := by
  obtain ⟨S2, D2, h1, h2, h3⟩ := ht
  have hd := List.drop_eq_getElem_cons hk
  have hsz : wr.heap.size ≤ (wr.alloc o).heap.size := by simp
  have hs0 := h.only.size
  refine ⟨S2, D2, h1, (h.only.alloc o).trans_new h2 (fun i hi => h.sub i hi), fun g hg => ?_, LDoc.apply_ok h.ok _, ?_, ?_⟩
  · rcases h3 g hg with h4 | h4
    · exact h.sub g h4
    · exact .inr (by omega)
  · rw [h.restE, hd, List.map_cons, LDoc.doE, if_neg (by omega)]
  · rw [h.restR, hd, List.map_cons, LDoc.doR, if_neg (by omega)]
theorem stop (h : DoMid w B S b A ys st k wr S' D' sk) (hk : k < ys.length) (o : Obj) (he : sk.applyE ys[k].op ≠ 0) (ht : DocTo (wr.alloc o) B S' b sk w') : st.doE (ys.map OpAt.op) = sk.applyE ys[k].op ∧ DocTo w B S b (st.doR (ys.map OpAt.op)) w' := by
  have hd := List.drop_eq_getElem_cons hk
  have hsz : wr.heap.size ≤ (wr.alloc o).heap.size := by simp
  have hs0 := h.only.size
  refine ⟨by rw [h.restE, hd, List.map_cons, LDoc.doE, if_pos he], ?_⟩
  rw [h.restR, hd, List.map_cons, LDoc.doR, if_pos he]
  exact DocTo.back (h.only.alloc o) h.sub ht
theorem fin (h : DoMid w B S b A ys st k wr S' D' sk) (hk : ys.length ≤ k) : st.doE (ys.map OpAt.op) = 0 ∧ DocTo w B S b (st.doR (ys.map OpAt.op)) wr := by
  have hd : ys.drop k = [] := List.drop_eq_nil_of_le hk
  refine ⟨by rw [h.restE, hd]; rfl, ?_⟩
  rw [h.restR, hd]
  exact ⟨S', D', h.doc, h.only, h.sub⟩
end DoMid
def DoPost (w : World) (B : Nat) (S : List Nat) (b : Nat) (k : Int) (st : LDoc) (e : Ending) (w' : World) : Prop := e = .returned (errV k) ∧ DocTo w B S b st w'
end Go.Proofs.YtnmmnejoldbeiaaGreatDoor
/- cursor.Anchor, Resolve, Range, walked. Conditions: places that an int may count. -/
namespace Go.Proofs.YtnmmnejoldbeiaaGreatDoor
open Go.RowKit
set_option linter.unusedVariables false

theorem empty_yes {p : ByteArray} (h : p.size = 0) : p.toList.isEmpty = true := by
  rw [toList_data, List.isEmpty_iff]
  exact List.eq_nil_of_length_eq_zero (by rw [Array.length_toList]; exact h)
theorem empty_no {p : ByteArray} (h : p.size ≠ 0) : p.toList.isEmpty = false := by
  rw [toList_data]
  cases hl : p.data.toList with
  | nil =>
    have : p.data.toList.length = 0 := by rw [hl]; rfl
    rw [Array.length_toList] at this
    exact absurd this h
  | cons a b => rfl
/-- Where a cursor is, of a book that is right. -/
def posOf (l : List LLeaf) (p : ByteArray) : Nat := if p.size = 0 then (textOf l).size else (textOf (l.take (ahead l p))).size
def cpErr (p : ByteArray) : Int := if p.size = 0 then 0 else placeErr p
def anchErr (l : List LLeaf) (off : Int) : Int := if bookErr l ≠ 0 then bookErr l else if off < 0 ∨ ((textOf l).size : Int) < off then 1 else 0
def anchRes (l : List LLeaf) (off : Int) : ByteArray := if anchErr l off = 0 ∧ off < ((textOf l).size : Int) then (l.getD (nthFrom 0 l off).toNat default).place else ⟨#[]⟩
def resErr (l : List LLeaf) (p : ByteArray) : Int := if bookErr l ≠ 0 then bookErr l else cpErr p
def resVal (l : List LLeaf) (p : ByteArray) : Int := if resErr l p = 0 then (posOf l p : Int) else 0
def rngErr (l : List LLeaf) (p q : ByteArray) : Int := if resErr l p ≠ 0 then resErr l p else if cpErr q ≠ 0 then cpErr q else if posOf l q < posOf l p then 3 else 0
def rngRes (l : List LLeaf) (p q : ByteArray) : ByteArray := if rngErr l p q = 0 then (textOf l).extract (posOf l p) (posOf l q) else ⟨#[]⟩
theorem text_size (l : List LLeaf) : (textOf l).size = (textL l).length := strOf_size _
theorem text_take_le (l : List LLeaf) (i : Nat) : (textL (l.take i)).length ≤ (textL l).length := by
  have e : textL l = textL (l.take i) ++ textL (l.drop i) := by
    unfold textL
    rw [← List.map_append, ← List.filter_append, List.take_append_drop]
  rw [e, List.length_append]; omega
theorem pos_le (l : List LLeaf) (p : ByteArray) : posOf l p ≤ (textOf l).size := by
  unfold posOf
  split
  · exact Nat.le_refl _
  · rw [text_size, text_size]; exact text_take_le l _
theorem place_size {p : ByteArray} (h : placeErr p = 0) : p.size ≠ 0 := by
  intro h0
  unfold placeErr at h
  rw [if_neg (by omega)] at h
  by_cases h1 : Letters p ∧ EndOk p
  · have := h1.2.1; omega
  · rw [if_neg h1] at h; omega
def StrPost (w : World) (s : ByteArray) (k : Int) (e : Ending) (w' : World) : Prop := e = .returned (.tuple #[.string s, errV k]) ∧ Below w.heap.size w w'
def RgLoop (w : World) (p q : ByteArray) (i : Value) (wr : World) : Prop :=
  ∃ k : Nat, k ≤ 2 ∧ i = .int .i64 k ∧ Hid (1 ≤ k → cpErr p = 0) ∧ Hid (2 ≤ k → cpErr q = 0) ∧ Hid (Below w.heap.size w wr)
section
variable (w : World) (A : Option Addr) (c : Nat) (l : List LLeaf) (h : Reads w w.heap.size 3 A l.length (lcells l)) (hs : Sized l) (hn : l.length ≤ c) (hc : c ≤ 9223372036854775807)
include h hs hn hc
end
end Go.Proofs.YtnmmnejoldbeiaaGreatDoor
/- Cursors stay by their letters when letters are typed: plain. Conditions: none. -/
namespace Go.Proofs.YtnmmnejoldbeiaaGreatDoor
open Go.RowKit
set_option linter.unusedVariables false
theorem textL_app (a b : List LLeaf) : textL (a ++ b) = textL a ++ textL b := by simp [textL]
theorem ahead_at {l : List LLeaf} (hr : Rising l) {n : Nat} (hn : n < l.length) : ahead l l[n].place = n :=
  ahead_of (by omega) (fun k hk hkj => rising_lt hr k n hk hn hkj) (fun k hk hjk => by
    rcases Nat.lt_or_ge n k with h1 | h1
    · exact less_asymm' _ _ (rising_lt hr n k hn hk h1)
    · obtain rfl : k = n := by omega
      exact less_irrefl' _)
/-- Where a cursor is anchored. -/
theorem anch_cases {l : List LLeaf} (hb : BookOk l) {at_ : Int} (h0 : 0 ≤ at_) (h1 : at_ ≤ ((textOf l).size : Int)) :
    (at_ = ((textOf l).size : Int) ∧ anchRes l at_ = ⟨#[]⟩) ∨ (at_ < ((textOf l).size : Int) ∧ ∃ n, ∃ hn : n < l.length, anchRes l at_ = l[n].place ∧ seenB l[n] = true ∧ ((textL (l.take n)).length : Int) = at_) := by
  have hz := bookErr_zero hb
  have hsz : (textOf l).size = (textL l).length := strOf_size _
  have he : anchErr l at_ = 0 := by unfold anchErr; rw [if_neg (by omega), if_neg (by omega)]
  by_cases h : at_ < ((textOf l).size : Int)
  · obtain ⟨o, rfl⟩ : ∃ o : Nat, at_ = o := ⟨at_.toNat, by omega⟩
    obtain ⟨n, hn, e1, e2, e3⟩ := nth_seen l 0 o (by omega)
    refine .inr ⟨h, n, hn, ?_, e2, by omega⟩
    unfold anchRes
    rw [if_pos ⟨he, h⟩, e1]
    simp [List.getD, hn]
  · exact .inl ⟨by omega, by unfold anchRes; rw [if_neg (fun hh => h hh.2)]⟩
theorem anch_ok {l : List LLeaf} (hb : BookOk l) {at_ : Int} (h0 : 0 ≤ at_) (h1 : at_ ≤ ((textOf l).size : Int)) : cpErr (anchRes l at_) = 0 ∧ (posOf l (anchRes l at_) : Int) = at_ := by
  rcases anch_cases hb h0 h1 with ⟨e1, e2⟩ | ⟨e1, n, hn, e2, e3, e4⟩
  · rw [e2]; exact ⟨rfl, by unfold posOf; rw [if_pos (show (⟨#[]⟩ : ByteArray).size = 0 from rfl)]; omega⟩
  · rw [e2]
    have hp := (hb.leafs _ (List.getElem_mem hn)).place
    have hs := place_size hp
    refine ⟨by unfold cpErr; rw [if_neg hs]; exact hp, ?_⟩
    unfold posOf
    rw [if_neg hs, ahead_at hb.rising hn]
    rw [show (textOf (l.take n)).size = (textL (l.take n)).length from strOf_size _]
    exact e4
/-- Letters are put in: a cursor is moved, or not. -/
theorem anch_moves {l a b new : List LLeaf} (hl : l = a ++ b) (hb : BookOk l) (hb2 : BookOk (a ++ new ++ b)) {at_ off : Int} (h0 : 0 ≤ at_) (h1 : at_ ≤ ((textOf l).size : Int)) (ho : ((textL a).length : Int) = off) :
    (posOf (a ++ new ++ b) (anchRes l at_) : Int) = if off ≤ at_ then at_ + (textL new).length else at_ := by
  have hsz : (textOf l).size = (textL l).length := strOf_size _
  have hsl : (textL l).length = (textL a).length + (textL b).length := by rw [hl, textL_app, List.length_append]
  rcases anch_cases hb h0 h1 with ⟨e1, e2⟩ | ⟨e1, n, hn, e2, e3, e4⟩
  · rw [e2]
    unfold posOf
    rw [if_pos (show (⟨#[]⟩ : ByteArray).size = 0 from rfl), show (textOf (a ++ new ++ b)).size = (textL (a ++ new ++ b)).length from strOf_size _, textL_app, textL_app, if_pos (by omega)]
    simp only [List.length_append]
    omega
  · have hp := (hb.leafs _ (List.getElem_mem hn)).place
    have hs := place_size hp
    rw [e2]
    unfold posOf
    rw [if_neg hs]
    by_cases hna : n < a.length
    · have hn2 : n < (a ++ new ++ b).length := by simp; omega
      have e5 : (a ++ new ++ b)[n] = l[n] := by
        subst hl
        rw [List.getElem_append_left (by simp; omega), List.getElem_append_left hna, List.getElem_append_left hna]
      have e6 := ahead_at hb2.rising hn2
      rw [e5] at e6
      rw [e6, show (textOf ((a ++ new ++ b).take n)).size = (textL ((a ++ new ++ b).take n)).length from strOf_size _]
      have e7 : (a ++ new ++ b).take n = l.take n := by
        subst hl
        rw [List.append_assoc, List.take_append_of_le_length (by omega), List.take_append_of_le_length (by omega)]
      rw [e7, if_neg, e4]
      have e8 : a[n] = l[n] := by subst hl; rw [List.getElem_append_left hna]
      have h3 := textL_take (l := a) hna
      rw [e8, if_pos e3] at h3
      have h4 := text_take_le a (n + 1)
      rw [h3, List.length_append] at h4
      have h5 : l.take n = a.take n := by subst hl; rw [List.take_append_of_le_length (by omega)]
      rw [h5] at e4
      simp at h4
      omega
    · have hn2 : n + new.length < (a ++ new ++ b).length := by subst hl; simp at hn ⊢; omega
      have hnb : n - a.length < b.length := by subst hl; simp at hn; omega
      have e5 : (a ++ new ++ b)[n + new.length] = l[n] := by
        subst hl
        rw [List.getElem_append_right (by simp; omega), List.getElem_append_right (by omega)]
        congr 1
        simp; omega
      have e6 := ahead_at hb2.rising hn2
      rw [e5] at e6
      rw [e6, show (textOf ((a ++ new ++ b).take (n + new.length))).size = (textL ((a ++ new ++ b).take (n + new.length))).length from strOf_size _]
      have e7 : (a ++ new ++ b).take (n + new.length) = a ++ new ++ b.take (n - a.length) := by
        rw [List.take_append, List.take_of_length_le (by simp; omega)]
        congr 2
        simp; omega
      have e8 : l.take n = a ++ b.take (n - a.length) := by
        subst hl
        rw [List.take_append, List.take_of_length_le (by omega)]
      rw [e8, textL_app, List.length_append] at e4
      rw [e7, textL_app, textL_app, if_pos (by omega)]
      simp only [List.length_append]
      omega
theorem insR_small {d : LDoc} {who off : Int} {text : ByteArray} : ∀ o ∈ d.insR who off text, o.place.size ≤ 12 := by
  by_cases h : d.insE who off text = 0
  · obtain ⟨h1, h2, h3, h4⟩ := LDoc.ins_ok h
    rw [h3]
    generalize rightOf d.book (idxOf d.book off) = right at *
    generalize leftOf d.book off = left at *
    generalize nOf d.known ⟨who, 0⟩ = n at *
    generalize text.toList = t at *
    clear h h1 h2 h3
    induction t generalizing left n with
    | nil => intro o ho; simp [typedOps] at ho
    | cons c t ih =>
      intro o ho
      rw [typedOps] at ho
      rcases List.mem_cons.1 ho with rfl | ho
      · exact (okPlace (good_of h4.1).check).1
      · exact ih _ _ h4.2 o ho
  · intro o ho
    unfold LDoc.insR at ho
    rw [if_neg h] at ho
    cases ho
theorem insR_len {d : LDoc} {who off : Int} {text : ByteArray} : (d.insR who off text).length ≤ 200 := by
  by_cases h : d.insE who off text = 0
  · obtain ⟨h1, h2, h3, h4⟩ := LDoc.ins_ok h
    rw [h3, typedOps_len, toList_len]
    exact (insErr_zero h2).1
  · unfold LDoc.insR
    rw [if_neg h]; simp
end Go.Proofs.YtnmmnejoldbeiaaGreatDoor
/- A closed fact that many laws begin with: what is typed into a new document; and ops that a call has laid lie apart from a document. Conditions: none. -/
namespace Go.Proofs.YtnmmnejoldbeiaaGreatDoor
open Go.RowKit
set_option linter.unusedVariables false
theorem sized_ok {l : List LLeaf} (h : BookOk l) : Sized l := fun x hx => by have := place_small (h.leafs x hx).place; omega
theorem ops_apart {w1 w2 : World} {B N b : Nat} {S : List Nat} {st : LDoc} {D : DLay} (h : DocIs w1 B S b st D) (hN : w1.heap.size ≤ N) {V : Option Addr} {c : Nat} {ys : List OpAt} (ho : OwnOps w2 N V c ys) (hp : ∀ o ∈ ys.map OpAt.op, o.place.size ≤ 12) :
    (0 < ys.length → ∀ g ∈ ob V, g ∉ S) ∧ ∀ y ∈ ys, OpFar w2 S y := by
  refine ⟨fun _ g hg hm => ?_, fun y hy => ⟨(ho.seen y hy).reads, ?_, fun _ g hg hm => ?_⟩⟩
  · have := (ho.row.lt g hg).1; have := (h.own g hm).2; omega
  · have := hp y.op (List.mem_map.2 ⟨y, hy, rfl⟩); omega
  · have := ((ho.seen y hy).lt g hg).1; have := (h.own g hm).2; omega
def hiT : ByteArray := ⟨#[104, 105]⟩
def hiDoc : LDoc := LDoc.new.doR (LDoc.new.insR 1 0 hiT)
theorem hi_ins : LDoc.new.insE 1 0 hiT = 0 := by decide +kernel
theorem hi_do : LDoc.new.doE (LDoc.new.insR 1 0 hiT) = 0 := by decide +kernel
theorem hi_text : textOf hiDoc.book = hiT := by decide +kernel
theorem hi_ok : hiDoc.Ok := LDoc.doR_ok _ LDoc.new_ok
end Go.Proofs.YtnmmnejoldbeiaaGreatDoor
/- Two documents beside each other; a row of ops apart from them. Plain, and by the contract of Apply. Conditions: none of our own. -/
namespace Go.Proofs.YtnmmnejoldbeiaaGreatDoor
open Go.RowKit
set_option linter.unusedVariables false
/-- Two documents of the call's own that share no block. -/
structure Docs2 (w : World) (B b1 b2 : Nat) (s1 s2 : LDoc) (wr : World) (S1 S2 : List Nat) (D1 D2 : DLay) : Prop where
  one : DocIs wr B S1 b1 s1 D1
  two : DocIs wr B S2 b2 s2 D2
  apart : ∀ g ∈ S1, g ∉ S2
  below : Below w.heap.size w wr
  base : w.heap.size ≤ B
namespace Docs2
variable {w wr w' : World} {B b1 b2 : Nat} {s1 s2 s : LDoc} {S1 S2 : List Nat} {D1 D2 : DLay}
theorem left (h : Docs2 w B b1 b2 s1 s2 wr S1 S2 D1 D2) (ht : DocTo wr B S1 b1 s w') : ∃ S' D', Docs2 w B b1 b2 s s2 w' S' S2 D' D2 ∧ Only S1 wr w' ∧ ∀ g ∈ S', g ∈ S1 ∨ wr.heap.size ≤ g := by
  obtain ⟨S', D', h1, h2, h3⟩ := ht
  refine ⟨S', D', ⟨h1, h.two.only h2 (fun g hg => h.apart g hg), fun g hg hm => ?_, h.below.trans (h2.below h.below.size (fun g hg => by have := (h.one.own g hg).1; have := h.base; omega)), h.base⟩, h2, h3⟩
  rcases h3 g hg with h4 | h4
  · exact h.apart g h4 hm
  · have := (h.two.own g hm).2; omega
theorem right (h : Docs2 w B b1 b2 s1 s2 wr S1 S2 D1 D2) (ht : DocTo wr B S2 b2 s w') : ∃ S' D', Docs2 w B b1 b2 s1 s w' S1 S' D1 D' ∧ Only S2 wr w' ∧ ∀ g ∈ S', g ∈ S2 ∨ wr.heap.size ≤ g := by
  obtain ⟨S', D', h1, h2, h3⟩ := ht
  refine ⟨S', D', ⟨h.one.only h2 (fun g hg hm => h.apart g hm hg), h1, fun g hg hm => ?_, h.below.trans (h2.below h.below.size (fun g hg => by have := (h.two.own g hg).1; have := h.base; omega)), h.base⟩, h2, h3⟩
  rcases h3 g hm with h4 | h4
  · exact h.apart g hg h4
  · have := (h.one.own g hg).2; omega
theorem step (h : Docs2 w B b1 b2 s1 s2 wr S1 S2 D1 D2) (hb : Below wr.heap.size wr w') : Docs2 w B b1 b2 s1 s2 w' S1 S2 D1 D2 :=
  ⟨h.one.below hb, h.two.below hb, h.apart, h.below.trans (hb.mono h.below.size), h.base⟩
theorem drewN (h : Docs2 w B b1 b2 s1 s2 wr S1 S2 D1 D2) (n : Nat) : Docs2 w B b1 b2 s1 s2 (wr.drewN n) S1 S2 D1 D2 :=
  ⟨h.one.drewN n, h.two.drewN n, h.apart, below_drewN h.below n, h.base⟩
theorem swap (h : Docs2 w B b1 b2 s1 s2 wr S1 S2 D1 D2) : Docs2 w B b2 b1 s2 s1 wr S2 S1 D2 D1 :=
  ⟨h.two, h.one, fun g h1 h2 => h.apart g h2 h1, h.below, h.base⟩
/-- The first is there; the second is newly made. -/
theorem make (hw : Below w.heap.size w wr) (hB : w.heap.size ≤ B) (h1 : DocIs wr B S1 b1 s1 D1) (hb : Below wr.heap.size wr w') (h2 : DocIs w' wr.heap.size S2 b2 s2 D2) : Docs2 w B b1 b2 s1 s2 w' S1 S2 D1 D2 :=
  ⟨h1.below hb, { h2 with book := h2.book.mono h1.size, marks := h2.marks.mono h1.size, known := h2.known.mono h1.size, ops := h2.ops.mono h1.size, seen := fun y hy => (h2.seen y hy).mono h1.size, own := fun g hg => by have := h2.own g hg; have := h1.size; omega },
    fun g hg hm => by have := (h1.own g hg).2; have := (h2.own g hm).1; omega, hw.trans (hb.mono hw.size), hB⟩
end Docs2
/-- A row of ops that reads, apart from the blocks S. -/
structure OpsBy (wr : World) (S : List Nat) (V : Option Addr) (zs : List OpAt) : Prop where
  row : Reads wr wr.heap.size 6 V zs.length (ocells zs)
  far : 0 < zs.length → ∀ g ∈ ob V, g ∉ S
  each : ∀ y ∈ zs, OpFar wr S y
namespace OpsBy
variable {wr w' : World} {S S' T : List Nat} {V : Option Addr} {zs : List OpAt}
theorem only (h : OpsBy wr S V zs) (ho : Only T wr w') (hT : ∀ g ∈ T, g ∈ S ∨ wr.heap.size ≤ g) (hS : ∀ g ∈ S', g ∈ S ∨ wr.heap.size ≤ g) : OpsBy w' S' V zs := by
  have key : ∀ {size n : Nat} {A : Option Addr} {xs : List Value}, Reads wr wr.heap.size size A n xs → (0 < n → ∀ g ∈ ob A, g ∉ S) → (0 < n → ∀ g ∈ ob A, g ∉ T) ∧ (0 < n → ∀ g ∈ ob A, g ∉ S') := fun {size n A xs} hr hf => by
    have hl : 0 < n → ∀ g ∈ ob A, g < wr.heap.size := fun hn g hg => by
      obtain ⟨ad, e, hb, _⟩ := hr.2 hn
      rw [e] at hg; simp [ob] at hg; omega
    refine ⟨fun hn g hg hm => ?_, fun hn g hg hm => ?_⟩
    · rcases hT g hm with h1 | h1
      · exact hf hn g hg h1
      · have := hl hn g hg; omega
    · rcases hS g hm with h1 | h1
      · exact hf hn g hg h1
      · have := hl hn g hg; omega
  obtain ⟨k1, k2⟩ := key h.row h.far
  refine ⟨h.row.only ho k1, k2, fun y hy => ?_⟩
  obtain ⟨f1, f2, f3⟩ := h.each y hy
  obtain ⟨k3, k4⟩ := key f1 f3
  exact ⟨f1.only ho k3, f2, k4⟩
theorem below (h : OpsBy wr S V zs) (hb : Below wr.heap.size wr w') : OpsBy w' S V zs := h.only (Only.of_below (S := []) hb) (by simp) (fun g hg => .inl hg)
theorem sub (h : OpsBy wr S V zs) (hs : ∀ g ∈ S', g ∈ S) : OpsBy wr S' V zs :=
  ⟨h.row, fun hn g hg hm => h.far hn g hg (hs g hm), fun y hy => ⟨(h.each y hy).1, (h.each y hy).2.1, fun hn g hg hm => (h.each y hy).2.2 hn g hg (hs g hm)⟩⟩
theorem of_own {N : Nat} {c : Nat} (h : OwnOps wr N V c zs) (hp : ∀ o ∈ zs.map OpAt.op, o.place.size ≤ 12) (hS : ∀ g ∈ S, g < N) : OpsBy wr S V zs := by
  refine ⟨h.row.reads, fun _ g hg hm => ?_, fun y hy => ⟨(h.seen y hy).reads, ?_, fun _ g hg hm => ?_⟩⟩
  · have := (h.row.lt g hg).1; have := hS g hm; omega
  · have := hp y.op (List.mem_map.2 ⟨y, hy, rfl⟩); omega
  · have := ((h.seen y hy).lt g hg).1; have := hS g hm; omega
end OpsBy
/-- Two documents to which the same ops were applied. -/
def PairAt (w : World) (B b1 b2 n : Nat) (wr : World) : Prop := ∃ st S1 S2 D1 D2, Docs2 w B b1 b2 st st wr S1 S2 D1 D2 ∧ st.Ok ∧ Says st.ops st ∧ st.ops.length ≤ n
def PairLoop (w : World) (B b1 b2 : Nat) (i : Value) (wr : World) : Prop := ∃ k : Nat, k ≤ 60 ∧ i = .int .i64 k ∧ Hid (PairAt w B b1 b2 k wr)
theorem PairAt.more {w wr : World} {B b1 b2 n m : Nat} (h : PairAt w B b1 b2 n wr) (hm : n ≤ m) : PairAt w B b1 b2 m wr := by
  obtain ⟨st, S1, S2, D1, D2, h1, h2, h3, h4⟩ := h
  exact ⟨st, S1, S2, D1, D2, h1, h2, h3, by omega⟩
theorem PairAt.round {w wr : World} {B b1 b2 n : Nat} (h : PairAt w B b1 b2 n wr) {A : Option Addr} {ys : List OpAt} (hr : Reads w w.heap.size 6 A ys.length (ocells ys)) (hg : ∀ y ∈ ys, y.Good w) {k : Nat} (hk : k < ys.length) :
    ∃ ad who nn what p letter seen ya yc, A = some ad ∧ Below w.heap.size w wr ∧ Hid (∀ W, Below w.heap.size w W → W.cell? (ad.add (k * 6)) = some (.int .i64 who) ∧ W.cell? ⟨(ad.add (k * 6)).block, (ad.add (k * 6)).off + 1, none⟩ = some (.int .i64 nn) ∧ W.cell? ⟨(ad.add (k * 6)).block, (ad.add (k * 6)).off + 2, none⟩ = some (.int .i64 what) ∧
      W.cell? ⟨(ad.add (k * 6)).block, (ad.add (k * 6)).off + 3, none⟩ = some (.string p) ∧ W.cell? ⟨(ad.add (k * 6)).block, (ad.add (k * 6)).off + 4, none⟩ = some (.int .i64 letter) ∧ W.cell? ⟨(ad.add (k * 6)).block, (ad.add (k * 6)).off + 5, none⟩ = some (.slice ya seen yc)) ∧
      Hid (Calls Tryz.prog 58 #[.pointer (some ⟨b1, 0, none⟩), .agg #[.int .i64 who, .int .i64 nn, .int .i64 what, .string p, .int .i64 letter, .slice ya seen yc]] wr (fun e w1 => (∃ (is : Bool) (ke : Int), e = .returned (.tuple #[.bool is, errV ke])) ∧ Below w.heap.size w w1 ∧
        Calls Tryz.prog 58 #[.pointer (some ⟨b2, 0, none⟩), .agg #[.int .i64 who, .int .i64 nn, .int .i64 what, .string p, .int .i64 letter, .slice ya seen yc]] w1 (fun e w2 => (∃ (is : Bool) (ke : Int), e = .returned (.tuple #[.bool is, errV ke])) ∧ PairAt w B b1 b2 (n + 1) w2))) := by
  obtain ⟨st, S1, S2, D1, D2, hd, hok, hs, hl⟩ := h
  obtain ⟨ad, rfl, hcel⟩ : ∃ ad, A = some ad ∧ ∀ W, Below w.heap.size w W → W.cell? (ad.add (k * 6)) = some (.int .i64 ys[k].op.dot.who) ∧ W.cell? ⟨(ad.add (k * 6)).block, (ad.add (k * 6)).off + 1, none⟩ = some (.int .i64 ys[k].op.dot.n) ∧ W.cell? ⟨(ad.add (k * 6)).block, (ad.add (k * 6)).off + 2, none⟩ = some (.int .i64 ys[k].op.what) ∧
      W.cell? ⟨(ad.add (k * 6)).block, (ad.add (k * 6)).off + 3, none⟩ = some (.string ys[k].op.place) ∧ W.cell? ⟨(ad.add (k * 6)).block, (ad.add (k * 6)).off + 4, none⟩ = some (.int .i64 ys[k].op.letter) ∧ W.cell? ⟨(ad.add (k * 6)).block, (ad.add (k * 6)).off + 5, none⟩ = some (.slice ys[k].at_ ys[k].op.seen.length ys[k].cap) := by
    obtain ⟨ad, e, _⟩ := hr.op hk
    refine ⟨ad, e, fun W hW => ?_⟩
    obtain ⟨ad', e', _, hh⟩ := (hr.below hW).op hk
    rw [e] at e'
    injection e' with e'
    subst e'
    exact hh
  have hgood := fun W (hW : Below w.heap.size w W) => (hg _ (List.getElem_mem hk)).below hW
  have hfar : ∀ S : List Nat, (∀ g ∈ S, B ≤ g) → 0 < ys[k].op.seen.length → ∀ g ∈ ob ys[k].at_, g ∉ S := fun S hS => (hg _ (List.getElem_mem hk)).1.far (fun g hg => by have := hS g hg; have := hd.base; omega)
  have hps := (hgood wr hd.below).2.1
  have HA := apply_doc wr _ _ _ _ _ hd.one hok ys[k].op ys[k].at_ ys[k].cap (by unfold maxLen at hps; omega) (hgood wr hd.below).1 (hfar S1 (fun g hg => (hd.one.own g hg).1))
  refine ⟨ad, _, _, _, _, _, _, _, _, rfl, hd.below, hcel, HA.mono ?_⟩
  rintro e w1 ⟨rfl, ht⟩
  obtain ⟨S', D', hd', ho', _⟩ := hd.left ht
  refine ⟨⟨_, _, rfl⟩, hd'.below, ?_⟩
  have HA2 := apply_doc w1 _ _ _ _ _ hd'.two hok ys[k].op ys[k].at_ ys[k].cap (by unfold maxLen at hps; omega) (hgood w1 hd'.below).1 (hfar S2 (fun g hg => (hd'.two.own g hg).1))
  refine HA2.mono ?_
  rintro e w2 ⟨rfl, ht2⟩
  obtain ⟨S'', D'', hd'', _, _⟩ := hd'.right ht2
  refine ⟨⟨_, _, rfl⟩, _, S', S'', D', D'', hd'', LDoc.apply_ok hok _, LDoc.apply_says hok hs _, ?_⟩
  rcases LDoc.apply_three (d := st) ys[k].op with ⟨_, _, q⟩ | ⟨_, _, q⟩ | ⟨_, _, q⟩
  · rw [q]; simp; omega
  · rw [q]; omega
  · rw [q]; omega
/-- Two documents, and rows of ops apart from both. -/
def Scene (w : World) (B b1 b2 : Nat) (s1 s2 : LDoc) (rows : List (Option Addr × List OpAt)) (wr : World) : Prop :=
  ∃ S1 S2 D1 D2, Docs2 w B b1 b2 s1 s2 wr S1 S2 D1 D2 ∧ ∀ r ∈ rows, OpsBy wr (S1 ++ S2) r.1 r.2
namespace Scene
variable {w wr w' : World} {B b1 b2 : Nat} {s1 s2 s : LDoc} {rows : List (Option Addr × List OpAt)}
theorem of_docs {S1 S2 : List Nat} {D1 D2 : DLay} (h : Docs2 w B b1 b2 s1 s2 wr S1 S2 D1 D2) : Scene w B b1 b2 s1 s2 [] wr := ⟨S1, S2, D1, D2, h, by simp⟩
theorem below (h : Scene w B b1 b2 s1 s2 rows wr) : Below w.heap.size w wr := by
  obtain ⟨S1, S2, D1, D2, h1, h2⟩ := h
  exact h1.below
theorem step (h : Scene w B b1 b2 s1 s2 rows wr) (hb : Below wr.heap.size wr w') : Scene w B b1 b2 s1 s2 rows w' := by
  obtain ⟨S1, S2, D1, D2, h1, h2⟩ := h
  exact ⟨S1, S2, D1, D2, h1.step hb, fun r hr => (h2 r hr).below hb⟩
theorem drewN (h : Scene w B b1 b2 s1 s2 rows wr) (n : Nat) : Scene w B b1 b2 s1 s2 rows (wr.drewN n) := h.step (below_drewN (Below.refl _ _) n)
theorem drew (h : Scene w B b1 b2 s1 s2 rows wr) : Scene w B b1 b2 s1 s2 rows wr.drew := h.step ((Below.refl _ _).drew)
theorem swap (h : Scene w B b1 b2 s1 s2 rows wr) : Scene w B b2 b1 s2 s1 rows wr := by
  obtain ⟨S1, S2, D1, D2, h1, h2⟩ := h
  exact ⟨S2, S1, D2, D1, h1.swap, fun r hr => (h2 r hr).sub (fun g hg => by rcases List.mem_append.1 hg with h | h <;> simp [h])⟩
theorem left (h : Scene w B b1 b2 s1 s2 rows wr) {Q : LDoc → Ending → World → Prop} :
    ∃ S1 D1, DocIs wr B S1 b1 s1 D1 ∧ (∀ r ∈ rows, OpsBy wr S1 r.1 r.2) ∧ ∀ s w', DocTo wr B S1 b1 s w' → Scene w B b1 b2 s s2 rows w' := by
  obtain ⟨S1, S2, D1, D2, h1, h2⟩ := h
  refine ⟨S1, D1, h1.one, fun r hr => (h2 r hr).sub (fun g hg => by simp [hg]), fun s w' ht => ?_⟩
  obtain ⟨S', D', g1, g2, g3⟩ := h1.left ht
  refine ⟨S', S2, D', D2, g1, fun r hr => (h2 r hr).only g2 (fun g hg => .inl (by simp [hg])) (fun g hg => ?_)⟩
  rcases List.mem_append.1 hg with h | h
  · rcases g3 g h with h3 | h3
    · exact .inl (by simp [h3])
    · exact .inr h3
  · exact .inl (by simp [h])
theorem bookL (h : Scene w B b1 b2 s1 s2 rows wr) (ok : s1.Ok) : Calls Tryz.prog 22 #[.pointer (some ⟨b1, 0, none⟩)] wr (fun e w' => ∃ V c, e = .returned (.slice V s1.book.length c) ∧ Own w' wr.heap.size 128 3 V s1.book.length c (lcells s1.book) ∧ Below wr.heap.size wr w' ∧ Scene w B b1 b2 s1 s2 rows w') := by
  obtain ⟨S1, D1, h1, h2, h3⟩ := h.left (Q := fun _ _ _ => True)
  exact (book_doc wr _ _ _ _ _ h1 ok).mono fun e w' ⟨V, c, g1, g2, g3⟩ => ⟨V, c, g1, g2, g3, h.step g3⟩
theorem bookR (h : Scene w B b1 b2 s1 s2 rows wr) (ok : s2.Ok) : Calls Tryz.prog 22 #[.pointer (some ⟨b2, 0, none⟩)] wr (fun e w' => ∃ V c, e = .returned (.slice V s2.book.length c) ∧ Own w' wr.heap.size 128 3 V s2.book.length c (lcells s2.book) ∧ Below wr.heap.size wr w' ∧ Scene w B b1 b2 s1 s2 rows w') :=
  (h.swap.bookL ok).mono fun e w' ⟨V, c, h1, h2, h3, h4⟩ => ⟨V, c, h1, h2, h3, h4.swap⟩
theorem marksL (h : Scene w B b1 b2 s1 s2 rows wr) (ok : s1.Ok) : Calls Tryz.prog 24 #[.pointer (some ⟨b1, 0, none⟩)] wr (fun e w' => ∃ V c, e = .returned (.slice V s1.marks.length c) ∧ Own w' wr.heap.size 124 3 V s1.marks.length c (mcells s1.marks) ∧ Below wr.heap.size wr w' ∧ Scene w B b1 b2 s1 s2 rows w') := by
  obtain ⟨S1, D1, h1, h2, h3⟩ := h.left (Q := fun _ _ _ => True)
  exact (marks_doc wr _ _ _ _ _ h1 ok).mono fun e w' ⟨V, c, g1, g2, g3⟩ => ⟨V, c, g1, g2, g3, h.step g3⟩
theorem marksR (h : Scene w B b1 b2 s1 s2 rows wr) (ok : s2.Ok) : Calls Tryz.prog 24 #[.pointer (some ⟨b2, 0, none⟩)] wr (fun e w' => ∃ V c, e = .returned (.slice V s2.marks.length c) ∧ Own w' wr.heap.size 124 3 V s2.marks.length c (mcells s2.marks) ∧ Below wr.heap.size wr w' ∧ Scene w B b1 b2 s1 s2 rows w') :=
  (h.swap.marksL ok).mono fun e w' ⟨V, c, h1, h2, h3, h4⟩ => ⟨V, c, h1, h2, h3, h4.swap⟩
theorem textL (h : Scene w B b1 b2 s1 s2 rows wr) (ok : s1.Ok) : Calls Tryz.prog 13 #[.pointer (some ⟨b1, 0, none⟩)] wr (fun e w' => e = .returned (.string (textOf s1.book)) ∧ Below wr.heap.size wr w' ∧ Scene w B b1 b2 s1 s2 rows w') := by
  obtain ⟨S1, D1, h1, h2, h3⟩ := h.left (Q := fun _ _ _ => True)
  exact (text_doc wr _ _ _ _ _ h1 ok).mono fun e w' ⟨g1, g2⟩ => ⟨g1, g2, h.step g2⟩
theorem textR (h : Scene w B b1 b2 s1 s2 rows wr) (ok : s2.Ok) : Calls Tryz.prog 13 #[.pointer (some ⟨b2, 0, none⟩)] wr (fun e w' => e = .returned (.string (textOf s2.book)) ∧ Below wr.heap.size wr w' ∧ Scene w B b1 b2 s1 s2 rows w') :=
  (h.swap.textL ok).mono fun e w' ⟨h1, h2, h3⟩ => ⟨h1, h2, h3.swap⟩
theorem rows_ (h : Scene w B b1 b2 s1 s2 rows wr) {V : Option Addr} {zs : List OpAt} (hr : (V, zs) ∈ rows) : Reads wr wr.heap.size 6 V zs.length (ocells zs) := by
  obtain ⟨S1, S2, D1, D2, h1, h2⟩ := h
  exact (h2 _ hr).row
end Scene
end Go.Proofs.YtnmmnejoldbeiaaGreatDoor

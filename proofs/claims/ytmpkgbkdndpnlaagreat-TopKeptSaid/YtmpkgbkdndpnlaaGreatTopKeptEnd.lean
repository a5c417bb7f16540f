/- 17 texts in one: each says ahead of itself what is proved, and its conditions. -/
import Derived.Below
import Derived.BigQuiet
import Derived.Deep.CutBlock
import Derived.ProofKit
import Derived.Test.YtmpkgbkdndpnlaaGreatRows
import Derived.WalkKit
import Derived.Test.YtmpkgbkdndpnlaaGreatBookLaw
import Derived.Test.YtmpkgbkdndpnlaaGreatDocGo
import Derived.Test.YtmpkgbkdndpnlaaGreatDocHelp
import Derived.Test.YtmpkgbkdndpnlaaGreatDocKnown
import Derived.Test.YtmpkgbkdndpnlaaGreatDocOps
import Derived.Test.YtmpkgbkdndpnlaaGreatEditInsert
import Derived.Test.YtmpkgbkdndpnlaaGreatEditLaw
import Derived.Test.YtmpkgbkdndpnlaaGreatEditSpec
import Derived.Test.YtmpkgbkdndpnlaaGreatLogAt
import Derived.Test.YtmpkgbkdndpnlaaGreatLogPut
import Derived.Test.YtmpkgbkdndpnlaaGreatNthSeen
import Derived.Test.YtmpkgbkdndpnlaaGreatOpen
import Derived.Test.YtmpkgbkdndpnlaaGreatSyncLaw
/- edit.Do, walked. Conditions: the document is right; the ops can be read, and lie apart from it. -/
namespace Go.Proofs.YtmpkgbkdndpnlaaGreat
open Go.RowKit
set_option linter.unusedVariables false
/-- An op's dots can be read, and lie apart from the blocks S. -/
def OpFar (w : World) (S : List Nat) (y : OpAt) : Prop := Reads w w.heap.size 2 y.at_ y.op.seen.length (dcells y.op.seen) ∧ y.op.place.size ≤ 9223372036854775807 ∧ (0 < y.op.seen.length → ∀ g ∈ ob y.at_, g ∉ S)
structure DoMid (w : World) (B : Nat) (S : List Nat) (b : Nat) (A : Option Addr) (ys : List OpAt) (st : LDoc) (k : Nat) (wr : World) (S' : List Nat) (D' : DLay) (sk : LDoc) : Prop where
  doc : DocIs wr B S' b sk D'
  only : Only S w wr
  sub : ∀ g ∈ S', g ∈ S ∨ w.heap.size ≤ g
  ok : sk.Ok
  restE : st.doE (ys.map OpAt.op) = sk.doE ((ys.drop k).map OpAt.op)
  restR : st.doR (ys.map OpAt.op) = sk.doR ((ys.drop k).map OpAt.op)
def DoLoop (w : World) (B : Nat) (S : List Nat) (b : Nat) (A : Option Addr) (ys : List OpAt) (st : LDoc) (i : Value) (wr : World) : Prop := ∃ k : Nat, ∃ S' D' sk, k ≤ ys.length ∧ i = .int .i64 k ∧ Hid (DoMid w B S b A ys st k wr S' D' sk)
theorem DocIs.lt {w : World} {B : Nat} {S : List Nat} {b : Nat} {st : LDoc} {D : DLay} (h : DocIs w B S b st D) : ∀ g ∈ S, B ≤ g ∧ g < w.heap.size := h.own
namespace DoMid
variable {w wr w' : World} {B b : Nat} {S S' : List Nat} {A : Option Addr} {ys : List OpAt} {st sk : LDoc} {k : Nat} {D' : DLay}
/-- The world in which the op's box has been laid. -/
theorem boxed (h : DoMid w B S b A ys st k wr S' D' sk) (o : Obj) : DocIs (wr.alloc o) B S' b sk D' := h.doc.below ((Below.refl _ _).alloc (Nat.le_refl _) o)
theorem next (h : DoMid w B S b A ys st k wr S' D' sk) (hk : k < ys.length) (o : Obj) (he : sk.applyE ys[k].op = 0) (ht : DocTo (wr.alloc o) B S' b (sk.apply ys[k].op) w') : ∃ S2 D2, DoMid w B S b A ys st (k + 1) w' S2 D2 (sk.apply ys[k].op) := by
  obtain ⟨S2, D2, h1, h2, h3⟩ := ht
  have hd := List.drop_eq_getElem_cons hk
  have hsz : wr.heap.size ≤ (wr.alloc o).heap.size := by simp
  have hs0 := h.only.size
  refine ⟨S2, D2, h1, (h.only.alloc o).trans_new h2 (fun i hi => h.sub i hi), fun g hg => ?_, LDoc.apply_ok h.ok _, ?_, ?_⟩
  · rcases h3 g hg with h4 | h4
    · exact h.sub g h4
    · exact .inr (by omega)
  · rw [h.restE, hd, List.map_cons, LDoc.doE, if_neg (by omega)]
  · rw [h.restR, hd, List.map_cons, LDoc.doR, if_neg (by omega)]
theorem stop (h : DoMid w B S b A ys st k wr S' D' sk) (hk : k < ys.length) (o : Obj) (he : sk.applyE ys[k].op ≠ 0) (ht : DocTo (wr.alloc o) B S' b sk w') : st.doE (ys.map OpAt.op) = sk.applyE ys[k].op ∧ DocTo w B S b (st.doR (ys.map OpAt.op)) w' := by
  have hd := List.drop_eq_getElem_cons hk
  have hsz : wr.heap.size ≤ (wr.alloc o).heap.size := by simp
  have hs0 := h.only.size
  refine ⟨by rw [h.restE, hd, List.map_cons, LDoc.doE, if_pos he], ?_⟩
  rw [h.restR, hd, List.map_cons, LDoc.doR, if_pos he]
  exact DocTo.back (h.only.alloc o) h.sub ht
theorem fin (h : DoMid w B S b A ys st k wr S' D' sk) (hk : ys.length ≤ k) : st.doE (ys.map OpAt.op) = 0 ∧ DocTo w B S b (st.doR (ys.map OpAt.op)) wr := by
  have hd : ys.drop k = [] := List.drop_eq_nil_of_le hk
  refine ⟨by rw [h.restE, hd]; rfl, ?_⟩
  rw [h.restR, hd]
  exact ⟨S', D', h.doc, h.only, h.sub⟩
end DoMid
def DoPost (w : World) (B : Nat) (S : List Nat) (b : Nat) (k : Int) (st : LDoc) (e : Ending) (w' : World) : Prop := e = .returned (errV k) ∧ DocTo w B S b st w'
set_option maxRecDepth 100000 in
set_option maxHeartbeats 8000000 in
theorem do_any (w : World) (B : Nat) (S : List Nat) (b : Nat) (st : LDoc) (D : DLay) (h : DocIs w B S b st D) (ok : st.Ok) (A : Option Addr) (c : Nat) (ys : List OpAt) (hr : Reads w w.heap.size 6 A ys.length (ocells ys)) (ha : 0 < ys.length → ∀ g ∈ ob A, g ∉ S)
    (hf : ∀ y ∈ ys, OpFar w S y) (hl : ys.length ≤ 9223372036854775807) :
    Calls Tryz.prog 27 #[.pointer (some ⟨b, 0, none⟩), .slice A ys.length c] w (DoPost w B S b (st.doE (ys.map OpAt.op)) (st.doR (ys.map OpAt.op))) := by
  have HR := Lib.hid hr
  have HA := Lib.hid ha
  have HF := Lib.hid hf
  have HM0 : Hid (DoMid w B S b A ys st 0 w S D st) := ⟨h, Only.refl _ _, fun g hg => .inl hg, ok, rfl, rfl⟩
  clear hr ha hf h ok
  go_enter Tryz.func27, Tryz.ntmps27
  go_wp2_with fail
  go_loopw [11] (fun i wr => DoLoop w B S b A ys st i wr) (fun i _ => ys.length - (intOf i).toNat)
  case atStart => exact ⟨0, _, _, _, Nat.zero_le _, rfl, HM0.out⟩
  case round =>
    obtain ⟨k, S', D', sk, hk, rfl, HM⟩ := hrel
    have k0 : (0 : Int) ≤ (k : Int) := by omega
    by_cases hlt : k < ys.length
    · have k1 : (k : Int) < (ys.length : Int) := by omega
      have hro := Reads.only HR.out HM.out.only HA.out
      obtain ⟨ad, rfl, hab, d0, d1, d2, d3, d4, d5⟩ := hro.op hlt
      obtain ⟨f1, f2, f3⟩ := HF.out _ (List.getElem_mem hlt)
      have f1' := Reads.only f1 HM.out.only f3
      have hfar : 0 < ys[k].op.seen.length → ∀ g ∈ ob ys[k].at_, g ∉ S' := fun hn g hg hm => by
        rcases HM.out.sub g hm with h4 | h4
        · exact f3 hn g hg h4
        · obtain ⟨ad', e, hb, _⟩ := f1.2 hn
          rw [e] at hg; simp [ob] at hg; omega
      have HAP : Hid (∀ o : Obj, Calls Tryz.prog 8 #[.pointer (some ⟨b, 0, none⟩), ys[k].op.val ys[k].at_ ys[k].cap] (wr.alloc o) (ApplyPost (wr.alloc o) B S' b (sk.applyB ys[k].op) (sk.applyE ys[k].op) (sk.apply ys[k].op))) := fun o =>
        apply_doc (wr.alloc o) B S' b sk D' (HM.out.boxed o) HM.out.ok ys[k].op ys[k].at_ ys[k].cap f2 ((f1'.alloc (Nat.le_refl _) o).more (by simp)) hfar
      have HNX : Hid (∀ (he : sk.applyE ys[k].op = 0) (o : Obj) (w' : World), DocTo (wr.alloc o) B S' b (sk.apply ys[k].op) w' → ∃ S2 D2, DoMid w B S b (some ad) ys st (k + 1) w' S2 D2 (sk.apply ys[k].op)) := fun he o w' ht => HM.out.next hlt o he ht
      have HST : Hid (∀ (he : sk.applyE ys[k].op ≠ 0) (o : Obj) (w' : World), DocTo (wr.alloc o) B S' b sk w' → st.doE (ys.map OpAt.op) = sk.applyE ys[k].op ∧ DocTo w B S b (st.doR (ys.map OpAt.op)) w') := fun he o w' ht => HM.out.stop hlt o he ht
      have HBAD := Lib.hid (fun he : sk.applyE ys[k].op ≠ 0 => LDoc.applyE_bad (d := sk) (o := ys[k].op) rfl he)
      clear f1 f1' f2 f3 hfar hro hab
      generalize ys[k] = y at *
      have HE0 : errV 0 = .nilIface := rfl
      by_cases he : sk.applyE y.op = 0
      · have HNY := Lib.hid (HNX.out he)
        rw [he] at HAP
        clear HST HBAD he HNX
        generalize sk.apply y.op = sk2 at *
        generalize sk.applyB y.op = bb at *
        obtain ⟨⟨⟨who, n⟩, what, p, letter, seen⟩, ya, yc⟩ := y
        unfold LOp.val at HAP
        simp only at d0 d1 d2 d3 d4 d5 HAP
        go_wp2_with fail
        refine (HAP.out _).mono ?_
        rintro e w2 ⟨rfl, ht⟩
        have HN2 := Lib.hid (HNY.out _ _ ht)
        rw [HE0]
        clear ht HNY HAP
        go_wp2_with fail
        go_roundw
        case rel =>
          obtain ⟨S2, D2, hfin⟩ := HN2.out
          exact ⟨k + 1, S2, D2, sk2, by omega, by go_num, hfin⟩
        case measure => simp [intOf]; omega
      · obtain ⟨_, hb, hs⟩ := HBAD.out he
        have HSU := Lib.hid (HST.out he)
        have HV := Lib.hid (errV_ne he)
        rw [hb, hs] at HAP
        clear HNX HBAD he hb hs HST
        generalize sk.applyE y.op = ke at *
        obtain ⟨⟨⟨who, n⟩, what, p, letter, seen⟩, ya, yc⟩ := y
        unfold LOp.val at HAP
        simp only at d0 d1 d2 d3 d4 d5 HAP
        go_wp2_with fail
        refine (HAP.out _).mono ?_
        rintro e w2 ⟨rfl, ht⟩
        have HN2 := Lib.hid (HSU.out _ _ ht)
        rw [HV.out]
        clear ht HSU HAP
        go_wp2_with fail
        go_ret
        obtain ⟨n1, n2⟩ := HN2.out
        exact ⟨by rw [n1, HV.out]; rfl, n2⟩
    · have k1 : ¬ (k : Int) < (ys.length : Int) := by omega
      obtain ⟨f1, f2⟩ := HM.out.fin (by omega)
      have F1 := Lib.hid f1
      have F2 := Lib.hid f2
      clear f1 f2
      go_wp2_with fail
      go_ret
      exact ⟨by rw [F1.out]; rfl, F2.out⟩
end Go.Proofs.YtmpkgbkdndpnlaaGreat
/- A row of ops is applied to a document, whatever comes of it: the round of such a loop. Plain, and by the contract of Apply. Conditions: the ops can be read. -/
namespace Go.Proofs.YtmpkgbkdndpnlaaGreat
open Go.RowKit
set_option linter.unusedVariables false
/-- A document of the call's own to which at most n ops were applied. -/
def DocAt (w : World) (B b n : Nat) (wr : World) : Prop := ∃ st S D, DocIs wr B S b st D ∧ st.Ok ∧ Says st.ops st ∧ Numbered st.ops ∧ st.ops.length ≤ n ∧ Below w.heap.size w wr
def DocLoop (w : World) (B b : Nat) (i : Value) (wr : World) : Prop := ∃ k : Nat, k ≤ 60 ∧ i = .int .i64 k ∧ Hid (DocAt w B b k wr)
theorem DocAt.new {w w' : World} {B b : Nat} {S : List Nat} {D : DLay} (h : DocIs w' B S b LDoc.new D) (hb : Below w.heap.size w w') (n : Nat) : DocAt w B b n w' := ⟨_, S, D, h, LDoc.new_ok, Says.new, Numbered.nil, Nat.zero_le _, hb⟩
theorem DocAt.more {w wr : World} {B b n m : Nat} (h : DocAt w B b n wr) (hm : n ≤ m) : DocAt w B b m wr := by
  obtain ⟨st, S, D, h1, h2, h3, h4, h5, h6⟩ := h
  exact ⟨st, S, D, h1, h2, h3, h4, by omega, h6⟩
theorem DocAt.round {w wr : World} {B b n : Nat} (h : DocAt w B b n wr) (hB : w.heap.size ≤ B) {A : Option Addr} {ys : List OpAt} (hr : Reads w w.heap.size 6 A ys.length (ocells ys)) (hg : ∀ y ∈ ys, y.Good w) {k : Nat} (hk : k < ys.length) :
    ∃ ad who nn what p letter seen ya yc, A = some ad ∧ wr.cell? (ad.add (k * 6)) = some (.int .i64 who) ∧ wr.cell? ⟨(ad.add (k * 6)).block, (ad.add (k * 6)).off + 1, none⟩ = some (.int .i64 nn) ∧ wr.cell? ⟨(ad.add (k * 6)).block, (ad.add (k * 6)).off + 2, none⟩ = some (.int .i64 what) ∧
      wr.cell? ⟨(ad.add (k * 6)).block, (ad.add (k * 6)).off + 3, none⟩ = some (.string p) ∧ wr.cell? ⟨(ad.add (k * 6)).block, (ad.add (k * 6)).off + 4, none⟩ = some (.int .i64 letter) ∧ wr.cell? ⟨(ad.add (k * 6)).block, (ad.add (k * 6)).off + 5, none⟩ = some (.slice ya seen yc) ∧
      Calls Tryz.prog 8 #[.pointer (some ⟨b, 0, none⟩), .agg #[.int .i64 who, .int .i64 nn, .int .i64 what, .string p, .int .i64 letter, .slice ya seen yc]] wr (fun e w' => (∃ (is : Bool) (ke : Int), e = .returned (.tuple #[.bool is, errV ke])) ∧ DocAt w B b (n + 1) w') := by
  obtain ⟨st, S, D, hd, hok, hs, hn, hl, hbw⟩ := h
  obtain ⟨ad, rfl, hab, c0', c1', c2', c3', c4', c5'⟩ := ((hr.below hbw).more hbw.size).op hk
  have hgood := (hg _ (List.getElem_mem hk)).below hbw
  have hps := hgood.2.1
  have hfar : 0 < ys[k].op.seen.length → ∀ g ∈ ob ys[k].at_, g ∉ S := (hg _ (List.getElem_mem hk)).1.far (fun g hg => by have := (hd.own g hg).1; omega)
  have HA := apply_doc wr _ _ _ _ _ hd hok ys[k].op ys[k].at_ ys[k].cap (by unfold maxLen at hps; omega) hgood.1 hfar
  refine ⟨ad, _, _, _, _, _, _, _, _, rfl, c0', c1', c2', c3', c4', c5', HA.mono ?_⟩
  rintro e w' ⟨rfl, S', D', h1, h2, h3⟩
  refine ⟨⟨_, _, rfl⟩, _, S', D', h1, LDoc.apply_ok hok _, LDoc.apply_says hok hs _, LDoc.apply_numbered hok hs hn _, ?_, hbw.trans (h2.below hbw.size (fun g hg => by have := (hd.own g hg).1; omega))⟩
  rcases LDoc.apply_three (d := st) ys[k].op with ⟨_, _, q⟩ | ⟨_, _, q⟩ | ⟨_, _, q⟩
  · rw [q]; simp; omega
  · rw [q]; omega
  · rw [q]; omega
/-- What came of the ops is far from older rows: they read as before. -/
theorem DocAt.below {w wr : World} {B b n : Nat} (h : DocAt w B b n wr) : Below w.heap.size w wr := by
  obtain ⟨st, S, D, h1, h2, h3, h4, h5, h6⟩ := h
  exact h6
end Go.Proofs.YtmpkgbkdndpnlaaGreat
/- cursor.Anchor, Resolve, Range, walked. Conditions: places that an int may count. -/
namespace Go.Proofs.YtmpkgbkdndpnlaaGreat
open Go.RowKit
set_option linter.unusedVariables false

theorem empty_yes {p : ByteArray} (h : p.size = 0) : p.toList.isEmpty = true := by
  rw [toList_data, List.isEmpty_iff]
  exact List.eq_nil_of_length_eq_zero (by rw [Array.length_toList]; exact h)
theorem empty_no {p : ByteArray} (h : p.size ≠ 0) : p.toList.isEmpty = false := by
  rw [toList_data]
  cases hl : p.data.toList with
  | nil =>
    have : p.data.toList.length = 0 := by rw [hl]; rfl
    rw [Array.length_toList] at this
    exact absurd this h
  | cons a b => rfl
/-- Where a cursor is, of a book that is right. -/
def posOf (l : List LLeaf) (p : ByteArray) : Nat := if p.size = 0 then (textOf l).size else (textOf (l.take (ahead l p))).size
def cpErr (p : ByteArray) : Int := if p.size = 0 then 0 else placeErr p
def anchErr (l : List LLeaf) (off : Int) : Int := if bookErr l ≠ 0 then bookErr l else if off < 0 ∨ ((textOf l).size : Int) < off then 1 else 0
def anchRes (l : List LLeaf) (off : Int) : ByteArray := if anchErr l off = 0 ∧ off < ((textOf l).size : Int) then (l.getD (nthFrom 0 l off).toNat default).place else ⟨#[]⟩
def resErr (l : List LLeaf) (p : ByteArray) : Int := if bookErr l ≠ 0 then bookErr l else cpErr p
def resVal (l : List LLeaf) (p : ByteArray) : Int := if resErr l p = 0 then (posOf l p : Int) else 0
def rngErr (l : List LLeaf) (p q : ByteArray) : Int := if resErr l p ≠ 0 then resErr l p else if cpErr q ≠ 0 then cpErr q else if posOf l q < posOf l p then 3 else 0
def rngRes (l : List LLeaf) (p q : ByteArray) : ByteArray := if rngErr l p q = 0 then (textOf l).extract (posOf l p) (posOf l q) else ⟨#[]⟩
theorem text_size (l : List LLeaf) : (textOf l).size = (textL l).length := strOf_size _
theorem text_take_le (l : List LLeaf) (i : Nat) : (textL (l.take i)).length ≤ (textL l).length := by
  have e : textL l = textL (l.take i) ++ textL (l.drop i) := by
    unfold textL
    rw [← List.map_append, ← List.filter_append, List.take_append_drop]
  rw [e, List.length_append]; omega
theorem pos_le (l : List LLeaf) (p : ByteArray) : posOf l p ≤ (textOf l).size := by
  unfold posOf
  split
  · exact Nat.le_refl _
  · rw [text_size, text_size]; exact text_take_le l _
theorem place_size {p : ByteArray} (h : placeErr p = 0) : p.size ≠ 0 := by
  intro h0
  unfold placeErr at h
  rw [if_neg (by omega)] at h
  by_cases h1 : Letters p ∧ EndOk p
  · have := h1.2.1; omega
  · rw [if_neg h1] at h; omega
def StrPost (w : World) (s : ByteArray) (k : Int) (e : Ending) (w' : World) : Prop := e = .returned (.tuple #[.string s, errV k]) ∧ Below w.heap.size w w'
def RgLoop (w : World) (p q : ByteArray) (i : Value) (wr : World) : Prop :=
  ∃ k : Nat, k ≤ 2 ∧ i = .int .i64 k ∧ Hid (1 ≤ k → cpErr p = 0) ∧ Hid (2 ≤ k → cpErr q = 0) ∧ Hid (Below w.heap.size w wr)
section
variable (w : World) (A : Option Addr) (c : Nat) (l : List LLeaf) (h : Reads w w.heap.size 3 A l.length (lcells l)) (hs : Sized l) (hn : l.length ≤ c) (hc : c ≤ 9223372036854775807)
include h hs hn hc
end
end Go.Proofs.YtmpkgbkdndpnlaaGreat
/- Cursors stay by their letters when letters are typed: plain. Conditions: none. -/
namespace Go.Proofs.YtmpkgbkdndpnlaaGreat
open Go.RowKit
set_option linter.unusedVariables false
theorem textL_app (a b : List LLeaf) : textL (a ++ b) = textL a ++ textL b := by simp [textL]
theorem ahead_at {l : List LLeaf} (hr : Rising l) {n : Nat} (hn : n < l.length) : ahead l l[n].place = n :=
  ahead_of (by omega) (fun k hk hkj => rising_lt hr k n hk hn hkj) (fun k hk hjk => by
    rcases Nat.lt_or_ge n k with h1 | h1
    · exact less_asymm' _ _ (rising_lt hr n k hn hk h1)
    · obtain rfl : k = n := by omega
      exact less_irrefl' _)
/-- Where a cursor is anchored. -/
theorem anch_cases {l : List LLeaf} (hb : BookOk l) {at_ : Int} (h0 : 0 ≤ at_) (h1 : at_ ≤ ((textOf l).size : Int)) :
    (at_ = ((textOf l).size : Int) ∧ anchRes l at_ = ⟨#[]⟩) ∨ (at_ < ((textOf l).size : Int) ∧ ∃ n, ∃ hn : n < l.length, anchRes l at_ = l[n].place ∧ seenB l[n] = true ∧ ((textL (l.take n)).length : Int) = at_) := by
  have hz := bookErr_zero hb
  have hsz : (textOf l).size = (textL l).length := strOf_size _
  have he : anchErr l at_ = 0 := by unfold anchErr; rw [if_neg (by omega), if_neg (by omega)]
  by_cases h : at_ < ((textOf l).size : Int)
  · obtain ⟨o, rfl⟩ : ∃ o : Nat, at_ = o := ⟨at_.toNat, by omega⟩
    obtain ⟨n, hn, e1, e2, e3⟩ := nth_seen l 0 o (by omega)
    refine .inr ⟨h, n, hn, ?_, e2, by omega⟩
    unfold anchRes
    rw [if_pos ⟨he, h⟩, e1]
    simp [List.getD, hn]
  · exact .inl ⟨by omega, by unfold anchRes; rw [if_neg (fun hh => h hh.2)]⟩
theorem anch_ok {l : List LLeaf} (hb : BookOk l) {at_ : Int} (h0 : 0 ≤ at_) (h1 : at_ ≤ ((textOf l).size : Int)) : cpErr (anchRes l at_) = 0 ∧ (posOf l (anchRes l at_) : Int) = at_ := by
  rcases anch_cases hb h0 h1 with ⟨e1, e2⟩ | ⟨e1, n, hn, e2, e3, e4⟩
  · rw [e2]; exact ⟨rfl, by unfold posOf; rw [if_pos (show (⟨#[]⟩ : ByteArray).size = 0 from rfl)]; omega⟩
  · rw [e2]
    have hp := (hb.leafs _ (List.getElem_mem hn)).place
    have hs := place_size hp
    refine ⟨by unfold cpErr; rw [if_neg hs]; exact hp, ?_⟩
    unfold posOf
    rw [if_neg hs, ahead_at hb.rising hn]
    rw [show (textOf (l.take n)).size = (textL (l.take n)).length from strOf_size _]
    exact e4
/-- Letters are put in: a cursor is moved, or not. -/
theorem anch_moves {l a b new : List LLeaf} (hl : l = a ++ b) (hb : BookOk l) (hb2 : BookOk (a ++ new ++ b)) {at_ off : Int} (h0 : 0 ≤ at_) (h1 : at_ ≤ ((textOf l).size : Int)) (ho : ((textL a).length : Int) = off) :
    (posOf (a ++ new ++ b) (anchRes l at_) : Int) = if off ≤ at_ then at_ + (textL new).length else at_ := by
  have hsz : (textOf l).size = (textL l).length := strOf_size _
  have hsl : (textL l).length = (textL a).length + (textL b).length := by rw [hl, textL_app, List.length_append]
  rcases anch_cases hb h0 h1 with ⟨e1, e2⟩ | ⟨e1, n, hn, e2, e3, e4⟩
  · rw [e2]
    unfold posOf
    rw [if_pos (show (⟨#[]⟩ : ByteArray).size = 0 from rfl), show (textOf (a ++ new ++ b)).size = (textL (a ++ new ++ b)).length from strOf_size _, textL_app, textL_app, if_pos (by omega)]
    simp only [List.length_append]
    omega
  · have hp := (hb.leafs _ (List.getElem_mem hn)).place
    have hs := place_size hp
    rw [e2]
    unfold posOf
    rw [if_neg hs]
    by_cases hna : n < a.length
    · have hn2 : n < (a ++ new ++ b).length := by simp; omega
      have e5 : (a ++ new ++ b)[n] = l[n] := by
        subst hl
        rw [List.getElem_append_left (by simp; omega), List.getElem_append_left hna, List.getElem_append_left hna]
      have e6 := ahead_at hb2.rising hn2
      rw [e5] at e6
      rw [e6, show (textOf ((a ++ new ++ b).take n)).size = (textL ((a ++ new ++ b).take n)).length from strOf_size _]
      have e7 : (a ++ new ++ b).take n = l.take n := by
        subst hl
        rw [List.append_assoc, List.take_append_of_le_length (by omega), List.take_append_of_le_length (by omega)]
      rw [e7, if_neg, e4]
      have e8 : a[n] = l[n] := by subst hl; rw [List.getElem_append_left hna]
      have h3 := textL_take (l := a) hna
      rw [e8, if_pos e3] at h3
      have h4 := text_take_le a (n + 1)
      rw [h3, List.length_append] at h4
      have h5 : l.take n = a.take n := by subst hl; rw [List.take_append_of_le_length (by omega)]
      rw [h5] at e4
      simp at h4
      omega
    · have hn2 : n + new.length < (a ++ new ++ b).length := by subst hl; simp at hn ⊢; omega
      have hnb : n - a.length < b.length := by subst hl; simp at hn; omega
      have e5 : (a ++ new ++ b)[n + new.length] = l[n] := by
        subst hl
        rw [List.getElem_append_right (by simp; omega), List.getElem_append_right (by omega)]
        congr 1
        simp; omega
      have e6 := ahead_at hb2.rising hn2
      rw [e5] at e6
      rw [e6, show (textOf ((a ++ new ++ b).take (n + new.length))).size = (textL ((a ++ new ++ b).take (n + new.length))).length from strOf_size _]
      have e7 : (a ++ new ++ b).take (n + new.length) = a ++ new ++ b.take (n - a.length) := by
        rw [List.take_append, List.take_of_length_le (by simp; omega)]
        congr 2
        simp; omega
      have e8 : l.take n = a ++ b.take (n - a.length) := by
        subst hl
        rw [List.take_append, List.take_of_length_le (by omega)]
      rw [e8, textL_app, List.length_append] at e4
      rw [e7, textL_app, textL_app, if_pos (by omega)]
      simp only [List.length_append]
      omega
theorem insR_small {d : LDoc} {who off : Int} {text : ByteArray} : ∀ o ∈ d.insR who off text, o.place.size ≤ 12 := by
  by_cases h : d.insE who off text = 0
  · obtain ⟨h1, h2, h3, h4⟩ := LDoc.ins_ok h
    rw [h3]
    generalize rightOf d.book (idxOf d.book off) = right at *
    generalize leftOf d.book off = left at *
    generalize nOf d.known ⟨who, 0⟩ = n at *
    generalize text.toList = t at *
    clear h h1 h2 h3
    induction t generalizing left n with
    | nil => intro o ho; simp [typedOps] at ho
    | cons c t ih =>
      intro o ho
      rw [typedOps] at ho
      rcases List.mem_cons.1 ho with rfl | ho
      · exact (okPlace (good_of h4.1).check).1
      · exact ih _ _ h4.2 o ho
  · intro o ho
    unfold LDoc.insR at ho
    rw [if_neg h] at ho
    cases ho
theorem insR_len {d : LDoc} {who off : Int} {text : ByteArray} : (d.insR who off text).length ≤ 200 := by
  by_cases h : d.insE who off text = 0
  · obtain ⟨h1, h2, h3, h4⟩ := LDoc.ins_ok h
    rw [h3, typedOps_len, toList_len]
    exact (insErr_zero h2).1
  · unfold LDoc.insR
    rw [if_neg h]; simp
end Go.Proofs.YtmpkgbkdndpnlaaGreat
/- A closed fact that many laws begin with: what is typed into a new document; and ops that a call has laid lie apart from a document. Conditions: none. -/
namespace Go.Proofs.YtmpkgbkdndpnlaaGreat
open Go.RowKit
set_option linter.unusedVariables false
theorem sized_ok {l : List LLeaf} (h : BookOk l) : Sized l := fun x hx => by have := place_small (h.leafs x hx).place; omega
theorem ops_apart {w1 w2 : World} {B N b : Nat} {S : List Nat} {st : LDoc} {D : DLay} (h : DocIs w1 B S b st D) (hN : w1.heap.size ≤ N) {V : Option Addr} {c : Nat} {ys : List OpAt} (ho : OwnOps w2 N V c ys) (hp : ∀ o ∈ ys.map OpAt.op, o.place.size ≤ 12) :
    (0 < ys.length → ∀ g ∈ ob V, g ∉ S) ∧ ∀ y ∈ ys, OpFar w2 S y := by
  refine ⟨fun _ g hg hm => ?_, fun y hy => ⟨(ho.seen y hy).reads, ?_, fun _ g hg hm => ?_⟩⟩
  · have := (ho.row.lt g hg).1; have := (h.own g hm).2; omega
  · have := hp y.op (List.mem_map.2 ⟨y, hy, rfl⟩); omega
  · have := ((ho.seen y hy).lt g hg).1; have := (h.own g hm).2; omega
/-- edit.Do of ops that edit.Insert has made, on the same document. -/
theorem do_ins {w7 w8 : World} {B b : Nat} {S : List Nat} {st : LDoc} {D : DLay} (h : DocIs w7 B S b st D) (ok : st.Ok) {who off : Int} {text : ByteArray} {V : Option Addr} {c : Nat} {zs : List OpAt} (hz : zs.map OpAt.op = st.insR who off text) (ho : OwnOps w8 w7.heap.size V c zs) (hb : Below w7.heap.size w7 w8) :
    Calls Tryz.prog 27 #[.pointer (some ⟨b, 0, none⟩), .slice V zs.length c] w8 (fun e w' => e = .returned (errV (st.doE (st.insR who off text))) ∧ DocTo w8 B S b (st.doR (st.insR who off text)) w') := by
  obtain ⟨a1, a2⟩ := ops_apart h (Nat.le_refl _) ho (by rw [hz]; exact insR_small)
  have hl : zs.length ≤ 200 := by have := insR_len (d := st) (who := who) (off := off) (text := text); rw [← hz, List.length_map] at this; exact this
  have := do_any w8 B S b st D (h.below hb) ok V c zs ho.row.reads a1 a2 (by omega)
  rw [hz] at this
  exact this
def hiT : ByteArray := ⟨#[104, 105]⟩
def hiDoc : LDoc := LDoc.new.doR (LDoc.new.insR 1 0 hiT)
theorem hi_ins : LDoc.new.insE 1 0 hiT = 0 := by decide +kernel
theorem hi_do : LDoc.new.doE (LDoc.new.insR 1 0 hiT) = 0 := by decide +kernel
theorem hi_text : textOf hiDoc.book = hiT := by decide +kernel
theorem hi_ok : hiDoc.Ok := LDoc.doR_ok _ LDoc.new_ok
end Go.Proofs.YtmpkgbkdndpnlaaGreat
/- Two documents beside each other; a row of ops apart from them. Plain, and by the contract of Apply. Conditions: none of our own. -/
namespace Go.Proofs.YtmpkgbkdndpnlaaGreat
open Go.RowKit
set_option linter.unusedVariables false
/-- Two documents of the call's own that share no block. -/
structure Docs2 (w : World) (B b1 b2 : Nat) (s1 s2 : LDoc) (wr : World) (S1 S2 : List Nat) (D1 D2 : DLay) : Prop where
  one : DocIs wr B S1 b1 s1 D1
  two : DocIs wr B S2 b2 s2 D2
  apart : ∀ g ∈ S1, g ∉ S2
  below : Below w.heap.size w wr
  base : w.heap.size ≤ B
namespace Docs2
variable {w wr w' : World} {B b1 b2 : Nat} {s1 s2 s : LDoc} {S1 S2 : List Nat} {D1 D2 : DLay}
theorem left (h : Docs2 w B b1 b2 s1 s2 wr S1 S2 D1 D2) (ht : DocTo wr B S1 b1 s w') : ∃ S' D', Docs2 w B b1 b2 s s2 w' S' S2 D' D2 ∧ Only S1 wr w' ∧ ∀ g ∈ S', g ∈ S1 ∨ wr.heap.size ≤ g := by
  obtain ⟨S', D', h1, h2, h3⟩ := ht
  refine ⟨S', D', ⟨h1, h.two.only h2 (fun g hg => h.apart g hg), fun g hg hm => ?_, h.below.trans (h2.below h.below.size (fun g hg => by have := (h.one.own g hg).1; have := h.base; omega)), h.base⟩, h2, h3⟩
  rcases h3 g hg with h4 | h4
  · exact h.apart g h4 hm
  · have := (h.two.own g hm).2; omega
theorem right (h : Docs2 w B b1 b2 s1 s2 wr S1 S2 D1 D2) (ht : DocTo wr B S2 b2 s w') : ∃ S' D', Docs2 w B b1 b2 s1 s w' S1 S' D1 D' ∧ Only S2 wr w' ∧ ∀ g ∈ S', g ∈ S2 ∨ wr.heap.size ≤ g := by
  obtain ⟨S', D', h1, h2, h3⟩ := ht
  refine ⟨S', D', ⟨h.one.only h2 (fun g hg hm => h.apart g hm hg), h1, fun g hg hm => ?_, h.below.trans (h2.below h.below.size (fun g hg => by have := (h.two.own g hg).1; have := h.base; omega)), h.base⟩, h2, h3⟩
  rcases h3 g hm with h4 | h4
  · exact h.apart g hg h4
  · have := (h.one.own g hg).2; omega
theorem step (h : Docs2 w B b1 b2 s1 s2 wr S1 S2 D1 D2) (hb : Below wr.heap.size wr w') : Docs2 w B b1 b2 s1 s2 w' S1 S2 D1 D2 :=
  ⟨h.one.below hb, h.two.below hb, h.apart, h.below.trans (hb.mono h.below.size), h.base⟩
theorem drewN (h : Docs2 w B b1 b2 s1 s2 wr S1 S2 D1 D2) (n : Nat) : Docs2 w B b1 b2 s1 s2 (wr.drewN n) S1 S2 D1 D2 :=
  ⟨h.one.drewN n, h.two.drewN n, h.apart, below_drewN h.below n, h.base⟩
theorem swap (h : Docs2 w B b1 b2 s1 s2 wr S1 S2 D1 D2) : Docs2 w B b2 b1 s2 s1 wr S2 S1 D2 D1 :=
  ⟨h.two, h.one, fun g h1 h2 => h.apart g h2 h1, h.below, h.base⟩
/-- The first is there; the second is newly made. -/
theorem make (hw : Below w.heap.size w wr) (hB : w.heap.size ≤ B) (h1 : DocIs wr B S1 b1 s1 D1) (hb : Below wr.heap.size wr w') (h2 : DocIs w' wr.heap.size S2 b2 s2 D2) : Docs2 w B b1 b2 s1 s2 w' S1 S2 D1 D2 :=
  ⟨h1.below hb, { h2 with book := h2.book.mono h1.size, marks := h2.marks.mono h1.size, known := h2.known.mono h1.size, ops := h2.ops.mono h1.size, seen := fun y hy => (h2.seen y hy).mono h1.size, own := fun g hg => by have := h2.own g hg; have := h1.size; omega },
    fun g hg hm => by have := (h1.own g hg).2; have := (h2.own g hm).1; omega, hw.trans (hb.mono hw.size), hB⟩
end Docs2
/-- A row of ops that reads, apart from the blocks S. -/
structure OpsBy (wr : World) (S : List Nat) (V : Option Addr) (zs : List OpAt) : Prop where
  row : Reads wr wr.heap.size 6 V zs.length (ocells zs)
  far : 0 < zs.length → ∀ g ∈ ob V, g ∉ S
  each : ∀ y ∈ zs, OpFar wr S y
namespace OpsBy
variable {wr w' : World} {S S' T : List Nat} {V : Option Addr} {zs : List OpAt}
theorem only (h : OpsBy wr S V zs) (ho : Only T wr w') (hT : ∀ g ∈ T, g ∈ S ∨ wr.heap.size ≤ g) (hS : ∀ g ∈ S', g ∈ S ∨ wr.heap.size ≤ g) : OpsBy w' S' V zs := by
  have key : ∀ {size n : Nat} {A : Option Addr} {xs : List Value}, Reads wr wr.heap.size size A n xs → (0 < n → ∀ g ∈ ob A, g ∉ S) → (0 < n → ∀ g ∈ ob A, g ∉ T) ∧ (0 < n → ∀ g ∈ ob A, g ∉ S') := fun {size n A xs} hr hf => by
    have hl : 0 < n → ∀ g ∈ ob A, g < wr.heap.size := fun hn g hg => by
      obtain ⟨ad, e, hb, _⟩ := hr.2 hn
      rw [e] at hg; simp [ob] at hg; omega
    refine ⟨fun hn g hg hm => ?_, fun hn g hg hm => ?_⟩
    · rcases hT g hm with h1 | h1
      · exact hf hn g hg h1
      · have := hl hn g hg; omega
    · rcases hS g hm with h1 | h1
      · exact hf hn g hg h1
      · have := hl hn g hg; omega
  obtain ⟨k1, k2⟩ := key h.row h.far
  refine ⟨h.row.only ho k1, k2, fun y hy => ?_⟩
  obtain ⟨f1, f2, f3⟩ := h.each y hy
  obtain ⟨k3, k4⟩ := key f1 f3
  exact ⟨f1.only ho k3, f2, k4⟩
theorem below (h : OpsBy wr S V zs) (hb : Below wr.heap.size wr w') : OpsBy w' S V zs := h.only (Only.of_below (S := []) hb) (by simp) (fun g hg => .inl hg)
theorem sub (h : OpsBy wr S V zs) (hs : ∀ g ∈ S', g ∈ S) : OpsBy wr S' V zs :=
  ⟨h.row, fun hn g hg hm => h.far hn g hg (hs g hm), fun y hy => ⟨(h.each y hy).1, (h.each y hy).2.1, fun hn g hg hm => (h.each y hy).2.2 hn g hg (hs g hm)⟩⟩
theorem of_own {N : Nat} {c : Nat} (h : OwnOps wr N V c zs) (hp : ∀ o ∈ zs.map OpAt.op, o.place.size ≤ 12) (hS : ∀ g ∈ S, g < N) : OpsBy wr S V zs := by
  refine ⟨h.row.reads, fun _ g hg hm => ?_, fun y hy => ⟨(h.seen y hy).reads, ?_, fun _ g hg hm => ?_⟩⟩
  · have := (h.row.lt g hg).1; have := hS g hm; omega
  · have := hp y.op (List.mem_map.2 ⟨y, hy, rfl⟩); omega
  · have := ((h.seen y hy).lt g hg).1; have := hS g hm; omega
theorem do_ (h : OpsBy wr S V zs) {B b : Nat} {st : LDoc} {D : DLay} (hd : DocIs wr B S b st D) (ok : st.Ok) (c : Nat) (hl : zs.length ≤ 1000000) :
    Calls Tryz.prog 27 #[.pointer (some ⟨b, 0, none⟩), .slice V zs.length c] wr (DoPost wr B S b (st.doE (zs.map OpAt.op)) (st.doR (zs.map OpAt.op))) :=
  do_any wr B S b st D hd ok V c zs h.row h.far h.each (by omega)
end OpsBy
/-- Two documents to which the same ops were applied. -/
def PairAt (w : World) (B b1 b2 n : Nat) (wr : World) : Prop := ∃ st S1 S2 D1 D2, Docs2 w B b1 b2 st st wr S1 S2 D1 D2 ∧ st.Ok ∧ Says st.ops st ∧ st.ops.length ≤ n
def PairLoop (w : World) (B b1 b2 : Nat) (i : Value) (wr : World) : Prop := ∃ k : Nat, k ≤ 60 ∧ i = .int .i64 k ∧ Hid (PairAt w B b1 b2 k wr)
theorem PairAt.more {w wr : World} {B b1 b2 n m : Nat} (h : PairAt w B b1 b2 n wr) (hm : n ≤ m) : PairAt w B b1 b2 m wr := by
  obtain ⟨st, S1, S2, D1, D2, h1, h2, h3, h4⟩ := h
  exact ⟨st, S1, S2, D1, D2, h1, h2, h3, by omega⟩
theorem PairAt.round {w wr : World} {B b1 b2 n : Nat} (h : PairAt w B b1 b2 n wr) {A : Option Addr} {ys : List OpAt} (hr : Reads w w.heap.size 6 A ys.length (ocells ys)) (hg : ∀ y ∈ ys, y.Good w) {k : Nat} (hk : k < ys.length) :
    ∃ ad who nn what p letter seen ya yc, A = some ad ∧ Below w.heap.size w wr ∧ Hid (∀ W, Below w.heap.size w W → W.cell? (ad.add (k * 6)) = some (.int .i64 who) ∧ W.cell? ⟨(ad.add (k * 6)).block, (ad.add (k * 6)).off + 1, none⟩ = some (.int .i64 nn) ∧ W.cell? ⟨(ad.add (k * 6)).block, (ad.add (k * 6)).off + 2, none⟩ = some (.int .i64 what) ∧
      W.cell? ⟨(ad.add (k * 6)).block, (ad.add (k * 6)).off + 3, none⟩ = some (.string p) ∧ W.cell? ⟨(ad.add (k * 6)).block, (ad.add (k * 6)).off + 4, none⟩ = some (.int .i64 letter) ∧ W.cell? ⟨(ad.add (k * 6)).block, (ad.add (k * 6)).off + 5, none⟩ = some (.slice ya seen yc)) ∧
      Hid (Calls Tryz.prog 8 #[.pointer (some ⟨b1, 0, none⟩), .agg #[.int .i64 who, .int .i64 nn, .int .i64 what, .string p, .int .i64 letter, .slice ya seen yc]] wr (fun e w1 => (∃ (is : Bool) (ke : Int), e = .returned (.tuple #[.bool is, errV ke])) ∧ Below w.heap.size w w1 ∧
        Calls Tryz.prog 8 #[.pointer (some ⟨b2, 0, none⟩), .agg #[.int .i64 who, .int .i64 nn, .int .i64 what, .string p, .int .i64 letter, .slice ya seen yc]] w1 (fun e w2 => (∃ (is : Bool) (ke : Int), e = .returned (.tuple #[.bool is, errV ke])) ∧ PairAt w B b1 b2 (n + 1) w2))) := by
  obtain ⟨st, S1, S2, D1, D2, hd, hok, hs, hl⟩ := h
  obtain ⟨ad, rfl, hcel⟩ : ∃ ad, A = some ad ∧ ∀ W, Below w.heap.size w W → W.cell? (ad.add (k * 6)) = some (.int .i64 ys[k].op.dot.who) ∧ W.cell? ⟨(ad.add (k * 6)).block, (ad.add (k * 6)).off + 1, none⟩ = some (.int .i64 ys[k].op.dot.n) ∧ W.cell? ⟨(ad.add (k * 6)).block, (ad.add (k * 6)).off + 2, none⟩ = some (.int .i64 ys[k].op.what) ∧
      W.cell? ⟨(ad.add (k * 6)).block, (ad.add (k * 6)).off + 3, none⟩ = some (.string ys[k].op.place) ∧ W.cell? ⟨(ad.add (k * 6)).block, (ad.add (k * 6)).off + 4, none⟩ = some (.int .i64 ys[k].op.letter) ∧ W.cell? ⟨(ad.add (k * 6)).block, (ad.add (k * 6)).off + 5, none⟩ = some (.slice ys[k].at_ ys[k].op.seen.length ys[k].cap) := by
    obtain ⟨ad, e, _⟩ := hr.op hk
    refine ⟨ad, e, fun W hW => ?_⟩
    obtain ⟨ad', e', _, hh⟩ := (hr.below hW).op hk
    rw [e] at e'
    injection e' with e'
    subst e'
    exact hh
  have hgood := fun W (hW : Below w.heap.size w W) => (hg _ (List.getElem_mem hk)).below hW
  have hfar : ∀ S : List Nat, (∀ g ∈ S, B ≤ g) → 0 < ys[k].op.seen.length → ∀ g ∈ ob ys[k].at_, g ∉ S := fun S hS => (hg _ (List.getElem_mem hk)).1.far (fun g hg => by have := hS g hg; have := hd.base; omega)
  have hps := (hgood wr hd.below).2.1
  have HA := apply_doc wr _ _ _ _ _ hd.one hok ys[k].op ys[k].at_ ys[k].cap (by unfold maxLen at hps; omega) (hgood wr hd.below).1 (hfar S1 (fun g hg => (hd.one.own g hg).1))
  refine ⟨ad, _, _, _, _, _, _, _, _, rfl, hd.below, hcel, HA.mono ?_⟩
  rintro e w1 ⟨rfl, ht⟩
  obtain ⟨S', D', hd', ho', _⟩ := hd.left ht
  refine ⟨⟨_, _, rfl⟩, hd'.below, ?_⟩
  have HA2 := apply_doc w1 _ _ _ _ _ hd'.two hok ys[k].op ys[k].at_ ys[k].cap (by unfold maxLen at hps; omega) (hgood w1 hd'.below).1 (hfar S2 (fun g hg => (hd'.two.own g hg).1))
  refine HA2.mono ?_
  rintro e w2 ⟨rfl, ht2⟩
  obtain ⟨S'', D'', hd'', _, _⟩ := hd'.right ht2
  refine ⟨⟨_, _, rfl⟩, _, S', S'', D', D'', hd'', LDoc.apply_ok hok _, LDoc.apply_says hok hs _, ?_⟩
  rcases LDoc.apply_three (d := st) ys[k].op with ⟨_, _, q⟩ | ⟨_, _, q⟩ | ⟨_, _, q⟩
  · rw [q]; simp; omega
  · rw [q]; omega
  · rw [q]; omega
/-- Two documents, and rows of ops apart from both. -/
def Scene (w : World) (B b1 b2 : Nat) (s1 s2 : LDoc) (rows : List (Option Addr × List OpAt)) (wr : World) : Prop :=
  ∃ S1 S2 D1 D2, Docs2 w B b1 b2 s1 s2 wr S1 S2 D1 D2 ∧ ∀ r ∈ rows, OpsBy wr (S1 ++ S2) r.1 r.2
namespace Scene
variable {w wr w' : World} {B b1 b2 : Nat} {s1 s2 s : LDoc} {rows : List (Option Addr × List OpAt)}
theorem of_docs {S1 S2 : List Nat} {D1 D2 : DLay} (h : Docs2 w B b1 b2 s1 s2 wr S1 S2 D1 D2) : Scene w B b1 b2 s1 s2 [] wr := ⟨S1, S2, D1, D2, h, by simp⟩
theorem below (h : Scene w B b1 b2 s1 s2 rows wr) : Below w.heap.size w wr := by
  obtain ⟨S1, S2, D1, D2, h1, h2⟩ := h
  exact h1.below
theorem step (h : Scene w B b1 b2 s1 s2 rows wr) (hb : Below wr.heap.size wr w') : Scene w B b1 b2 s1 s2 rows w' := by
  obtain ⟨S1, S2, D1, D2, h1, h2⟩ := h
  exact ⟨S1, S2, D1, D2, h1.step hb, fun r hr => (h2 r hr).below hb⟩
theorem drewN (h : Scene w B b1 b2 s1 s2 rows wr) (n : Nat) : Scene w B b1 b2 s1 s2 rows (wr.drewN n) := h.step (below_drewN (Below.refl _ _) n)
theorem drew (h : Scene w B b1 b2 s1 s2 rows wr) : Scene w B b1 b2 s1 s2 rows wr.drew := h.step ((Below.refl _ _).drew)
theorem swap (h : Scene w B b1 b2 s1 s2 rows wr) : Scene w B b2 b1 s2 s1 rows wr := by
  obtain ⟨S1, S2, D1, D2, h1, h2⟩ := h
  exact ⟨S2, S1, D2, D1, h1.swap, fun r hr => (h2 r hr).sub (fun g hg => by rcases List.mem_append.1 hg with h | h <;> simp [h])⟩
theorem left (h : Scene w B b1 b2 s1 s2 rows wr) {Q : LDoc → Ending → World → Prop} :
    ∃ S1 D1, DocIs wr B S1 b1 s1 D1 ∧ (∀ r ∈ rows, OpsBy wr S1 r.1 r.2) ∧ ∀ s w', DocTo wr B S1 b1 s w' → Scene w B b1 b2 s s2 rows w' := by
  obtain ⟨S1, S2, D1, D2, h1, h2⟩ := h
  refine ⟨S1, D1, h1.one, fun r hr => (h2 r hr).sub (fun g hg => by simp [hg]), fun s w' ht => ?_⟩
  obtain ⟨S', D', g1, g2, g3⟩ := h1.left ht
  refine ⟨S', S2, D', D2, g1, fun r hr => (h2 r hr).only g2 (fun g hg => .inl (by simp [hg])) (fun g hg => ?_)⟩
  rcases List.mem_append.1 hg with h | h
  · rcases g3 g h with h3 | h3
    · exact .inl (by simp [h3])
    · exact .inr h3
  · exact .inl (by simp [h])
theorem doL (h : Scene w B b1 b2 s1 s2 rows wr) (ok : s1.Ok) {V : Option Addr} {zs : List OpAt} (hr : (V, zs) ∈ rows) (c : Nat) (hl : zs.length ≤ 1000000) :
    Calls Tryz.prog 27 #[.pointer (some ⟨b1, 0, none⟩), .slice V zs.length c] wr (fun e w' => e = .returned (errV (s1.doE (zs.map OpAt.op))) ∧ Scene w B b1 b2 (s1.doR (zs.map OpAt.op)) s2 rows w') := by
  obtain ⟨S1, D1, h1, h2, h3⟩ := h.left (Q := fun _ _ _ => True)
  exact ((h2 _ hr).do_ h1 ok c hl).mono fun e w' hh => ⟨hh.1, h3 _ _ hh.2⟩
theorem doR (h : Scene w B b1 b2 s1 s2 rows wr) (ok : s2.Ok) {V : Option Addr} {zs : List OpAt} (hr : (V, zs) ∈ rows) (c : Nat) (hl : zs.length ≤ 1000000) :
    Calls Tryz.prog 27 #[.pointer (some ⟨b2, 0, none⟩), .slice V zs.length c] wr (fun e w' => e = .returned (errV (s2.doE (zs.map OpAt.op))) ∧ Scene w B b1 b2 s1 (s2.doR (zs.map OpAt.op)) rows w') :=
  (h.swap.doL ok hr c hl).mono fun e w' hh => ⟨hh.1, hh.2.swap⟩
theorem insL (h : Scene w B b1 b2 s1 s2 rows wr) (ok : s1.Ok) (who off : Int) (text : ByteArray) (hw0 : -9223372036854775808 ≤ who) (hw1 : who ≤ 9223372036854775807) (ho : off ≤ 9223372036854775807) (ht : text.size ≤ 9223372036854775807) :
    Calls Tryz.prog 28 #[.pointer (some ⟨b1, 0, none⟩), .int .i64 who, .int .i64 off, .string text] wr (fun e w' => ∃ V c zs, e = .returned (.tuple #[.slice V zs.length c, errV (s1.insE who off text)]) ∧ zs.map OpAt.op = s1.insR who off text ∧ zs.length ≤ 200 ∧ Scene w B b1 b2 s1 s2 ((V, zs) :: rows) w') := by
  obtain ⟨S1, S2, D1, D2, h1, h2⟩ := h
  refine (insert_any wr _ _ _ _ _ h1.one ok who off text hw0 hw1 ho ht).mono ?_
  rintro e w' ⟨V, c, zs, rfl, z1, z2, hb⟩
  refine ⟨V, c, zs, rfl, z1, by have := insR_len (d := s1) (who := who) (off := off) (text := text); rw [← z1, List.length_map] at this; exact this, S1, S2, D1, D2, h1.step hb, fun r hr => ?_⟩
  rcases List.mem_cons.1 hr with rfl | hr
  · exact OpsBy.of_own z2 (by rw [z1]; exact insR_small) (fun g hg => by
      rcases List.mem_append.1 hg with h | h
      · exact (h1.one.own g h).2
      · exact (h1.two.own g h).2)
  · exact (h2 r hr).below hb
theorem insR (h : Scene w B b1 b2 s1 s2 rows wr) (ok : s2.Ok) (who off : Int) (text : ByteArray) (hw0 : -9223372036854775808 ≤ who) (hw1 : who ≤ 9223372036854775807) (ho : off ≤ 9223372036854775807) (ht : text.size ≤ 9223372036854775807) :
    Calls Tryz.prog 28 #[.pointer (some ⟨b2, 0, none⟩), .int .i64 who, .int .i64 off, .string text] wr (fun e w' => ∃ V c zs, e = .returned (.tuple #[.slice V zs.length c, errV (s2.insE who off text)]) ∧ zs.map OpAt.op = s2.insR who off text ∧ zs.length ≤ 200 ∧ Scene w B b1 b2 s1 s2 ((V, zs) :: rows) w') :=
  (h.swap.insL ok who off text hw0 hw1 ho ht).mono fun e w' ⟨V, c, zs, h1, h2, h3, h4⟩ => ⟨V, c, zs, h1, h2, h3, h4.swap⟩
theorem bookL (h : Scene w B b1 b2 s1 s2 rows wr) (ok : s1.Ok) : Calls Tryz.prog 17 #[.pointer (some ⟨b1, 0, none⟩)] wr (fun e w' => ∃ V c, e = .returned (.slice V s1.book.length c) ∧ Own w' wr.heap.size 85 3 V s1.book.length c (lcells s1.book) ∧ Below wr.heap.size wr w' ∧ Scene w B b1 b2 s1 s2 rows w') := by
  obtain ⟨S1, D1, h1, h2, h3⟩ := h.left (Q := fun _ _ _ => True)
  exact (book_doc wr _ _ _ _ _ h1 ok).mono fun e w' ⟨V, c, g1, g2, g3⟩ => ⟨V, c, g1, g2, g3, h.step g3⟩
theorem bookR (h : Scene w B b1 b2 s1 s2 rows wr) (ok : s2.Ok) : Calls Tryz.prog 17 #[.pointer (some ⟨b2, 0, none⟩)] wr (fun e w' => ∃ V c, e = .returned (.slice V s2.book.length c) ∧ Own w' wr.heap.size 85 3 V s2.book.length c (lcells s2.book) ∧ Below wr.heap.size wr w' ∧ Scene w B b1 b2 s1 s2 rows w') :=
  (h.swap.bookL ok).mono fun e w' ⟨V, c, h1, h2, h3, h4⟩ => ⟨V, c, h1, h2, h3, h4.swap⟩
theorem marksL (h : Scene w B b1 b2 s1 s2 rows wr) (ok : s1.Ok) : Calls Tryz.prog 19 #[.pointer (some ⟨b1, 0, none⟩)] wr (fun e w' => ∃ V c, e = .returned (.slice V s1.marks.length c) ∧ Own w' wr.heap.size 88 3 V s1.marks.length c (mcells s1.marks) ∧ Below wr.heap.size wr w' ∧ Scene w B b1 b2 s1 s2 rows w') := by
  obtain ⟨S1, D1, h1, h2, h3⟩ := h.left (Q := fun _ _ _ => True)
  exact (marks_doc wr _ _ _ _ _ h1 ok).mono fun e w' ⟨V, c, g1, g2, g3⟩ => ⟨V, c, g1, g2, g3, h.step g3⟩
theorem marksR (h : Scene w B b1 b2 s1 s2 rows wr) (ok : s2.Ok) : Calls Tryz.prog 19 #[.pointer (some ⟨b2, 0, none⟩)] wr (fun e w' => ∃ V c, e = .returned (.slice V s2.marks.length c) ∧ Own w' wr.heap.size 88 3 V s2.marks.length c (mcells s2.marks) ∧ Below wr.heap.size wr w' ∧ Scene w B b1 b2 s1 s2 rows w') :=
  (h.swap.marksL ok).mono fun e w' ⟨V, c, h1, h2, h3, h4⟩ => ⟨V, c, h1, h2, h3, h4.swap⟩
theorem textL (h : Scene w B b1 b2 s1 s2 rows wr) (ok : s1.Ok) : Calls Tryz.prog 26 #[.pointer (some ⟨b1, 0, none⟩)] wr (fun e w' => e = .returned (.string (textOf s1.book)) ∧ Below wr.heap.size wr w' ∧ Scene w B b1 b2 s1 s2 rows w') := by
  obtain ⟨S1, D1, h1, h2, h3⟩ := h.left (Q := fun _ _ _ => True)
  exact (text_doc wr _ _ _ _ _ h1 ok).mono fun e w' ⟨g1, g2⟩ => ⟨g1, g2, h.step g2⟩
theorem textR (h : Scene w B b1 b2 s1 s2 rows wr) (ok : s2.Ok) : Calls Tryz.prog 26 #[.pointer (some ⟨b2, 0, none⟩)] wr (fun e w' => e = .returned (.string (textOf s2.book)) ∧ Below wr.heap.size wr w' ∧ Scene w B b1 b2 s1 s2 rows w') :=
  (h.swap.textL ok).mono fun e w' ⟨h1, h2, h3⟩ => ⟨h1, h2, h3.swap⟩
theorem rows_ (h : Scene w B b1 b2 s1 s2 rows wr) {V : Option Addr} {zs : List OpAt} (hr : (V, zs) ∈ rows) : Reads wr wr.heap.size 6 V zs.length (ocells zs) := by
  obtain ⟨S1, S2, D1, D2, h1, h2⟩ := h
  exact (h2 _ hr).row
end Scene
end Go.Proofs.YtmpkgbkdndpnlaaGreat
/- sync.lacks, sync.take, walked. Conditions: the document is right; the ops can be read, and lie apart from it. -/
namespace Go.Proofs.YtmpkgbkdndpnlaaGreat
open Go.RowKit
set_option linter.unusedVariables false
def lacksO (l : List OpAt) (v : List Int) : List OpAt := l.filter fun y => lacksB v y.op
theorem lacksO_map (l : List OpAt) (v : List Int) : (lacksO l v).map OpAt.op = lacksR (l.map OpAt.op) v := by
  unfold lacksO lacksR
  rw [List.filter_map]
  rfl
theorem lacksO_take {l : List OpAt} {v : List Int} {k : Nat} (h : k < l.length) : lacksO (l.take (k + 1)) v = if lacksB v l[k].op = true then lacksO (l.take k) v ++ [l[k]] else lacksO (l.take k) v := by
  unfold lacksO
  rw [List.take_succ_eq_append_getElem h, List.filter_append]
  by_cases hb : lacksB v l[k].op = true
  · rw [if_pos hb, List.filter_cons, if_pos hb]; rfl
  · rw [if_neg hb, List.filter_cons, if_neg hb]; simp
theorem reads_op_at (W : World) (N : Nat) (h : W.heap.size = N) (y : OpAt) : Reads (W.alloc (.cells (y.op.cells y.at_ y.cap) 36)) (N + 1) 6 (some ⟨N, 0, none⟩) 1 (ocells [y]) := by
  subst h; exact reads_op W y
def LacksLoop (w : World) (l : List OpAt) (v : List Int) (o i : Value) (wr : World) : Prop :=
  ∃ (k cv : Nat) (V : Option Addr), k ≤ l.length ∧ i = .int .i64 k ∧ o = .slice V (lacksO (l.take k) v).length cv ∧ Hid (Own wr w.heap.size 36 6 V (lacksO (l.take k) v).length cv (ocells (lacksO (l.take k) v))) ∧ Hid (Below w.heap.size w wr)
def LacksPost (w : World) (l : List OpAt) (v : List Int) (e : Ending) (w' : World) : Prop :=
  ∃ V c, e = .returned (.slice V (lacksO l v).length c) ∧ Own w' w.heap.size 36 6 V (lacksO l v).length c (ocells (lacksO l v)) ∧ Below w.heap.size w w'
set_option maxRecDepth 100000 in
set_option maxHeartbeats 4000000 in
theorem slacks_any (w : World) (A : Option Addr) (c : Nat) (l : List OpAt) (K : Option Addr) (ck : Nat) (v : List Int) (h : Reads w w.heap.size 6 A l.length (ocells l)) (hg : ∀ y ∈ l, dotErr y.op.dot = 0) (hl : l.length ≤ 100000) (hv : Reads w w.heap.size 1 K v.length (ints v)) (hv8 : v.length = 8) :
    Calls Tryz.prog 38 #[.slice A l.length c, .slice K v.length ck] w (LacksPost w l v) := by
  have HR := Lib.hid h
  have HV := Lib.hid hv
  have HG := Lib.hid hg
  have HV8 := Lib.hid hv8
  clear h hv hg hv8
  go_enter Tryz.func38, Tryz.ntmps38
  go_wp2_with fail
  go_loopw [4, 9] (fun o i wr => LacksLoop w l v o i wr) (fun _ i _ => l.length - (intOf i).toNat)
  case atStart => exact ⟨0, 0, none, Nat.zero_le _, rfl, rfl, Own.nil _ _ _ _, Below.refl _ _⟩
  case round =>
    obtain ⟨k, cv, V, hk, rfl, rfl, HO, HB⟩ := hrel
    have k0 : (0 : Int) ≤ (k : Int) := by omega
    by_cases hlt : k < l.length
    · have k1 : (k : Int) < (l.length : Int) := by omega
      obtain ⟨ad, rfl, _, d0, d1, d2, d3, d4, d5⟩ := (HR.out.below HB.out).op hlt
      have HT := Lib.hid (lacksO_take (v := v) hlt)
      have hll : (lacksO (l.take k) v).length ≤ k := by have := List.length_filter_le (fun y : OpAt => lacksB v y.op) (l.take k); unfold lacksO; rw [List.length_take] at this; omega
      obtain ⟨j, hj, hw, n1, n2⟩ := dot_in (HG.out _ (List.getElem_mem hlt))
      have hj8 : j < v.length := by have := HV8.out; omega
      obtain ⟨av, rfl, _, _⟩ := HV.out.int hj8
      have HCV : Hid (∀ W, Below w.heap.size w W → W.cell? (av.add j) = some (.int .i64 v[j])) := fun W hb => by
        obtain ⟨a', e, _, hh⟩ := (HV.out.below hb).int hj8
        injection e with e
        subst e
        exact hh
      have hnof : nOf v l[k].op.dot = v[j] := by
        unfold nOf
        rw [hw, show ((j : Int) + 1 - 1).toNat = j by omega]
        simp [List.getD, hj8]
      have hlb : lacksB v l[k].op = decide (v[j] < l[k].op.dot.n) := by unfold lacksB; rw [hnof]
      rw [hlb] at HT
      have HRO := Lib.hid (fun (W : World) (N : Nat) (hN : W.heap.size = N) => reads_op_at W N hN l[k])
      have HON := Lib.hid (ocells_one [l[k]])
      have hF : Fits ((lacksO (l.take k) v).length + 1) 72 := Fits.of_small (by omega) (by decide)
      generalize lacksO (l.take k) v = rs at *
      generalize l[k] = y at *
      obtain ⟨⟨⟨who, n⟩, what, p, letter, seen⟩, ya, yc⟩ := y
      unfold LOp.cells at HRO
      simp only at d0 d1 d2 d3 d4 d5 hw HT HRO HON
      subst hw
      have q1 : IntKind.i64.wrap ((j : Int) + 1 - 1) = (j : Int) := by rw [IntWalk.i64_in _ (by omega)]; omega
      have j0 : (0 : Int) ≤ (j : Int) := by omega
      have j1 : (j : Int) < (v.length : Int) := by omega
      have HOX := Lib.hid (HO.out.alloc (.cells #[.int .i64 ((j : Int) + 1), .int .i64 n, .int .i64 what, .string p, .int .i64 letter, .slice ya seen.length yc] 36))
      have HBX : Hid (Below w.heap.size w (wr.alloc (.cells #[.int .i64 ((j : Int) + 1), .int .i64 n, .int .i64 what, .string p, .int .i64 letter, .slice ya seen.length yc] 36))) := HB.out.alloc HB.out.size _
      have hsz : w.heap.size ≤ wr.heap.size := HB.out.size
      have b0 : (wr.alloc (.cells #[.int .i64 ((j : Int) + 1), .int .i64 n, .int .i64 what, .string p, .int .i64 letter, .slice ya seen.length yc] 36)).cell? ⟨wr.heap.size, 0, none⟩ = some (.int .i64 ((j : Int) + 1)) := (Blk.new wr 36 _).cell 0
      have b1 : (wr.alloc (.cells #[.int .i64 ((j : Int) + 1), .int .i64 n, .int .i64 what, .string p, .int .i64 letter, .slice ya seen.length yc] 36)).cell? ⟨wr.heap.size, 1, none⟩ = some (.int .i64 n) := (Blk.new wr 36 _).cell 1
      have c0 := HCV.out _ (HB.out.alloc HB.out.size (.cells #[.int .i64 ((j : Int) + 1), .int .i64 n, .int .i64 what, .string p, .int .i64 letter, .slice ya seen.length yc] 36))
      clear hnof hlb HO
      generalize v[j] = u at *
      by_cases hlk : u < n
      · have g1 : decide (n > u) = true := decide_eq_true hlk
        have g2 : decide (u < n) = true := decide_eq_true hlk
        rw [decide_eq_true hlk] at HT
        simp only [if_true] at HT
        clear hlk
        go_wp2_with fail
        go_quiet (fail)
        go_wp2_with (at_builtin; go_loud (refine wpList_app _ (.tmp 24) (.tmp 26) rfl rfl elemO_ rfl rfl ((HOX.out.drewN _).alloc _) (HRO.out _ _ (by simp)) HON.out hF (by simp; omega) ?_; intro V2 cv2 w4 HO4 HL4 HX4; have HOn := Lib.hid HO4; have HBn : Hid (Below w.heap.size w w4) := ((below_drewN HBX.out _).alloc HBX.out.size _).trans (HL4.below (by simp; omega) (fun g hg => (HOX.out.lt g hg).1)); clear HO4 HL4 HX4))
        go_roundw
        case rel => exact ⟨k + 1, cv2, V2, by omega, by go_num, by rw [HT.out]; simp, by rw [HT.out, ocells_app, List.length_append]; exact HOn, HBn⟩
        case measure => simp [intOf]; omega
      · have g1 : decide (n > u) = false := decide_eq_false hlk
        have g2 : decide (u < n) = false := decide_eq_false hlk
        rw [decide_eq_false hlk] at HT
        simp only [Bool.false_eq_true, if_false] at HT
        clear hlk
        go_wp2_with fail
        go_quiet (fail)
        go_wp2_with fail
        go_roundw
        case rel => exact ⟨k + 1, cv, V, by omega, by go_num, by rw [HT.out], by rw [HT.out]; exact HOX.out.drewN _, below_drewN HBX.out _⟩
        case measure => simp [intOf]; omega
    · have k1 : ¬ (k : Int) < (l.length : Int) := by omega
      obtain rfl : k = l.length := by omega
      rw [List.take_length] at HO ⊢
      go_wp2_with fail
      go_ret
      exact ⟨V, cv, rfl, HO.out, HB.out⟩
end Go.Proofs.YtmpkgbkdndpnlaaGreat
/- sync.take, walked. Conditions: the document is right; the ops can be read, and lie apart from it. -/
namespace Go.Proofs.YtmpkgbkdndpnlaaGreat
open Go.RowKit
set_option linter.unusedVariables false
namespace LDoc
def tookN (d : LDoc) (l : List LOp) : Int := if d.doE l = 0 then d.takeN l else 0
end LDoc
structure TkMid (w : World) (B : Nat) (S : List Nat) (b : Nat) (A : Option Addr) (ys : List OpAt) (st : LDoc) (k : Nat) (n : Int) (wr : World) (S' : List Nat) (D' : DLay) (sk : LDoc) : Prop where
  mid : DoMid w B S b A ys st k wr S' D' sk
  num : st.takeN (ys.map OpAt.op) = n + sk.takeN ((ys.drop k).map OpAt.op)
  le : 0 ≤ n ∧ n ≤ k
def TkLoop (w : World) (B : Nat) (S : List Nat) (b : Nat) (A : Option Addr) (ys : List OpAt) (st : LDoc) (v i : Value) (wr : World) : Prop := ∃ k : Nat, ∃ (n : Int), ∃ S' D' sk, k ≤ ys.length ∧ i = .int .i64 k ∧ v = .int .i64 n ∧ Hid (TkMid w B S b A ys st k n wr S' D' sk)
theorem TkMid.next {w wr w' : World} {B b : Nat} {S S' : List Nat} {A : Option Addr} {ys : List OpAt} {st sk : LDoc} {k : Nat} {n : Int} {D' : DLay} (h : TkMid w B S b A ys st k n wr S' D' sk) (hk : k < ys.length) (o : Obj) (he : sk.applyE ys[k].op = 0) (ht : DocTo (wr.alloc o) B S' b (sk.apply ys[k].op) w') :
    ∃ S2 D2, TkMid w B S b A ys st (k + 1) (n + if sk.applyB ys[k].op = true then 1 else 0) w' S2 D2 (sk.apply ys[k].op) := by
  obtain ⟨S2, D2, h1⟩ := h.mid.next hk o he ht
  refine ⟨S2, D2, h1, ?_, ?_⟩
  · rw [h.num, List.drop_eq_getElem_cons hk, List.map_cons, LDoc.takeN, if_neg (by omega)]
    omega
  · have := h.le
    split <;> omega
def TakePost (w : World) (B : Nat) (S : List Nat) (b : Nat) (n k : Int) (st : LDoc) (e : Ending) (w' : World) : Prop := e = .returned (.tuple #[.int .i64 n, errV k]) ∧ DocTo w B S b st w'
end Go.Proofs.YtmpkgbkdndpnlaaGreat
/- sync.Both, walked. Conditions: both documents are right. -/
namespace Go.Proofs.YtmpkgbkdndpnlaaGreat
open Go.RowKit
set_option linter.unusedVariables false
namespace LDoc
def bothE (a b : LDoc) : Int := if gaveE a b ≠ 0 then gaveE a b else gaveE (gave a b) a
def bothA (a b : LDoc) : LDoc := if gaveE a b ≠ 0 then a else gave (gave a b) a
def bothN (a b : LDoc) : Int := if bothE a b = 0 then gaveN a b else 0
def bothM (a b : LDoc) : Int := if bothE a b = 0 then gaveN (gave a b) a else 0
theorem both_one {a b : LDoc} (h : gaveE a b ≠ 0) : bothE a b = gaveE a b ∧ bothA a b = a ∧ bothN a b = 0 ∧ bothM a b = 0 := by
  have e1 : bothE a b = gaveE a b := if_pos h
  refine ⟨e1, if_pos h, ?_, ?_⟩
  · unfold bothN; rw [e1, if_neg h]
  · unfold bothM; rw [e1, if_neg h]
theorem both_two {a b : LDoc} (h : gaveE a b = 0) (h2 : gaveE (gave a b) a ≠ 0) : bothE a b = gaveE (gave a b) a ∧ bothA a b = gave (gave a b) a ∧ bothN a b = 0 ∧ bothM a b = 0 := by
  have e1 : bothE a b = gaveE (gave a b) a := if_neg (fun x => x h)
  refine ⟨e1, if_neg (fun x => x h), ?_, ?_⟩
  · unfold bothN; rw [e1, if_neg h2]
  · unfold bothM; rw [e1, if_neg h2]
theorem both_all {a b : LDoc} (h : gaveE a b = 0) (h2 : gaveE (gave a b) a = 0) : bothE a b = 0 ∧ bothA a b = gave (gave a b) a ∧ bothN a b = gaveN a b ∧ bothM a b = gaveN (gave a b) a := by
  have e1 : bothE a b = 0 := by unfold bothE; rw [if_neg (fun x => x h), h2]
  refine ⟨e1, if_neg (fun x => x h), ?_, ?_⟩
  · unfold bothN; rw [if_pos e1]
  · unfold bothM; rw [if_pos e1]
theorem ops_good {a : LDoc} (h : a.Ok) {zs : List OpAt} (hz : zs.map OpAt.op = a.ops) : ∀ y ∈ zs, dotErr y.op.dot = 0 := fun y hy => by
  have : y.op ∈ a.ops := by rw [← hz]; exact List.mem_map.2 ⟨y, hy, rfl⟩
  exact (op_ok (h.ops _ this).1).1
theorem ops_small {a : LDoc} (h : a.Ok) : ∀ o ∈ a.ops, o.place.size ≤ 12 := fun o ho => place_small (op_ok (h.ops _ ho).1).2.2.1
end LDoc
namespace Scene
variable {w wr w' : World} {B b1 b2 : Nat} {s1 s2 s : LDoc} {rows rows' : List (Option Addr × List OpAt)}
theorem sub (h : Scene w B b1 b2 s1 s2 rows wr) (hs : ∀ r ∈ rows', r ∈ rows) : Scene w B b1 b2 s1 s2 rows' wr := by
  obtain ⟨S1, S2, D1, D2, h1, h2⟩ := h
  exact ⟨S1, S2, D1, D2, h1, fun r hr => h2 r (hs r hr)⟩
theorem opsL (h : Scene w B b1 b2 s1 s2 rows wr) (ok : s1.Ok) : Calls Tryz.prog 13 #[.pointer (some ⟨b1, 0, none⟩)] wr (fun e w' => ∃ V c zs, e = .returned (.slice V zs.length c) ∧ zs.map OpAt.op = s1.ops ∧ zs.length ≤ 400 ∧ Below wr.heap.size wr w' ∧ Scene w B b1 b2 s1 s2 ((V, zs) :: rows) w') := by
  obtain ⟨S1, S2, D1, D2, h1, h2⟩ := h
  refine (ops_doc wr _ _ _ _ _ h1.one ok).mono ?_
  rintro e w' ⟨V, c, zs, rfl, z1, z2, hb⟩
  have hl : s1.ops.length = zs.length := by rw [← z1, List.length_map]
  have hfew := ok.few
  refine ⟨V, c, zs, by rw [hl], z1, by omega, hb, S1, S2, D1, D2, h1.step hb, fun r hr => ?_⟩
  rcases List.mem_cons.1 hr with rfl | hr
  · exact OpsBy.of_own z2 (by rw [z1]; exact LDoc.ops_small ok) (fun g hg => by
      rcases List.mem_append.1 hg with h | h
      · exact (h1.one.own g h).2
      · exact (h1.two.own g h).2)
  · exact (h2 r hr).below hb
theorem opsR (h : Scene w B b1 b2 s1 s2 rows wr) (ok : s2.Ok) : Calls Tryz.prog 13 #[.pointer (some ⟨b2, 0, none⟩)] wr (fun e w' => ∃ V c zs, e = .returned (.slice V zs.length c) ∧ zs.map OpAt.op = s2.ops ∧ zs.length ≤ 400 ∧ Below wr.heap.size wr w' ∧ Scene w B b1 b2 s1 s2 ((V, zs) :: rows) w') :=
  (h.swap.opsL ok).mono fun e w' ⟨V, c, zs, h1, h2, h3, h4, h5⟩ => ⟨V, c, zs, h1, h2, h3, h4, h5.swap⟩
theorem knownL (h : Scene w B b1 b2 s1 s2 rows wr) (ok : s1.Ok) : Calls Tryz.prog 15 #[.pointer (some ⟨b1, 0, none⟩)] wr (fun e w' => ∃ V c, e = .returned (.slice V s1.known.length c) ∧ Own w' wr.heap.size 3 1 V s1.known.length c (ints s1.known) ∧ Below wr.heap.size wr w' ∧ Scene w B b1 b2 s1 s2 rows w') := by
  obtain ⟨S1, D1, h1, h2, h3⟩ := h.left (Q := fun _ _ _ => True)
  exact (known_doc wr _ _ _ _ _ h1 ok).mono fun e w' ⟨V, c, g1, g2, g3⟩ => ⟨V, c, g1, g2, g3, h.step g3⟩
theorem knownR (h : Scene w B b1 b2 s1 s2 rows wr) (ok : s2.Ok) : Calls Tryz.prog 15 #[.pointer (some ⟨b2, 0, none⟩)] wr (fun e w' => ∃ V c, e = .returned (.slice V s2.known.length c) ∧ Own w' wr.heap.size 3 1 V s2.known.length c (ints s2.known) ∧ Below wr.heap.size wr w' ∧ Scene w B b1 b2 s1 s2 rows w') :=
  (h.swap.knownL ok).mono fun e w' ⟨V, c, h1, h2, h3, h4⟩ => ⟨V, c, h1, h2, h3, h4.swap⟩
theorem lacks (h : Scene w B b1 b2 s1 s2 rows wr) {V : Option Addr} {zs : List OpAt} (hr : (V, zs) ∈ rows) (hg : ∀ y ∈ zs, dotErr y.op.dot = 0) (hl : zs.length ≤ 100000) {K : Option Addr} {v : List Int} (hv : Reads wr wr.heap.size 1 K v.length (ints v)) (hv8 : v.length = 8) (c ck : Nat) :
    Calls Tryz.prog 38 #[.slice V zs.length c, .slice K v.length ck] wr (fun e w' => ∃ V' c', e = .returned (.slice V' (lacksO zs v).length c') ∧ Below wr.heap.size wr w' ∧ Scene w B b1 b2 s1 s2 ((V', lacksO zs v) :: rows) w') := by
  obtain ⟨S1, S2, D1, D2, h1, h2⟩ := h
  refine (slacks_any wr V c zs K ck v (h2 _ hr).row hg hl hv hv8).mono ?_
  rintro e w' ⟨V', c', rfl, hO, hb⟩
  refine ⟨V', c', rfl, hb, S1, S2, D1, D2, h1.step hb, fun r hr' => ?_⟩
  rcases List.mem_cons.1 hr' with rfl | hr'
  · refine ⟨hO.reads, fun _ g hg hm => ?_, fun y hy => ((h2 _ hr).below hb).each y (List.mem_filter.1 hy).1⟩
    have := (hO.lt g hg).1
    rcases List.mem_append.1 hm with h | h
    · have := (h1.one.own g h).2; omega
    · have := (h1.two.own g h).2; omega
  · exact (h2 r hr').below hb
end Scene
end Go.Proofs.YtmpkgbkdndpnlaaGreat
/- sync.Lacks, walked: its copy, own down to the dots. Conditions: the ops can be read. -/
namespace Go.Proofs.YtmpkgbkdndpnlaaGreat
open Go.RowKit
set_option linter.unusedVariables false
/-- The first fault of some ops. -/
def opsFault : List LOp → Int
  | [] => 0
  | o :: t => if opErr o ≠ 0 then opErr o else opsFault t
theorem opsFault_zero : ∀ {l : List LOp}, (∀ o ∈ l, opErr o = 0) → opsFault l = 0
  | [], _ => rfl
  | o :: t, h => by rw [opsFault, if_neg (by have := h o (by simp); omega)]; exact opsFault_zero (fun x hx => h x (by simp [hx]))
theorem opsFault_drop {l : List LOp} {k : Nat} (hk : k < l.length) : opsFault (l.drop k) = if opErr l[k] ≠ 0 then opErr l[k] else opsFault (l.drop (k + 1)) := by
  rw [List.drop_eq_getElem_cons hk, opsFault]
theorem opsFault_mdrop {l : List OpAt} {k : Nat} (hk : k < l.length) : opsFault ((l.drop k).map OpAt.op) = if opErr l[k].op ≠ 0 then opErr l[k].op else opsFault ((l.drop (k + 1)).map OpAt.op) := by
  rw [List.drop_eq_getElem_cons hk, List.map_cons, opsFault]
theorem opsFault_ok : ∀ {l : List LOp}, opsFault l = 0 → ∀ o ∈ l, opErr o = 0
  | [], _ => by simp
  | o :: t, h => by
    unfold opsFault at h
    split at h
    · rename_i h1; exact absurd h h1
    · rename_i h1
      intro x hx
      rcases List.mem_cons.1 hx with rfl | hx
      · omega
      · exact opsFault_ok h x hx
def lackE (l : List LOp) (v : List Int) : Int := if vecErr v ≠ 0 then vecErr v else if 400 < l.length then 4 else opsFault l
def giveO (k : Int) (l : List LOp) : List LOp := if k = 0 then l else []
/-- Midway: the ops so far, each with dots of its own. -/
structure OutMid (w : World) (l : List OpAt) (V : Option Addr) (c : Nat) (zs : List OpAt) (k : Nat) (wr : World) : Prop where
  below : Below w.heap.size w wr
  own : OwnOps wr w.heap.size V c zs
  same : zs.map OpAt.op = (l.take k).map OpAt.op
  rest : opsFault (l.map OpAt.op) = opsFault ((l.drop k).map OpAt.op)
def OutLoop (w : World) (l : List OpAt) (o i : Value) (wr : World) : Prop := ∃ (k c : Nat) (V : Option Addr) (zs : List OpAt), k ≤ l.length ∧ i = .int .i64 k ∧ o = .slice V zs.length c ∧ Hid (OutMid w l V c zs k wr)
def OutPost (w : World) (l : List LOp) (k : Int) (e : Ending) (w' : World) : Prop :=
  ∃ V c zs, e = .returned (.tuple #[.slice V zs.length c, errV k]) ∧ zs.map OpAt.op = l ∧ OwnOps w' w.heap.size V c zs ∧ Below w.heap.size w w'
theorem out_bad {w w' : World} {k : Int} (hb : Below w.heap.size w w') : OutPost w [] k (.returned (.tuple #[.slice none 0 0, errV k])) w' := ⟨none, 0, [], rfl, rfl, ⟨Own.nil _ _ _ _, by simp⟩, hb⟩
theorem OutMid.step {w wr w2 w3 w4 : World} {l : List OpAt} {V : Option Addr} {c : Nat} {zs : List OpAt} {k : Nat} (h : OutMid w l V c zs k wr) (hk : k < l.length) (he : opErr l[k].op = 0) (hb2 : Below wr.heap.size wr w2) {Vd : Option Addr} {cd : Nat} (hd : Own w2 wr.heap.size 33 2 Vd l[k].op.seen.length cd (dcells l[k].op.seen))
    {b : Nat} (hbx : wr.heap.size ≤ b) (hnb : ∀ g ∈ ob Vd, g ≠ b) (h3 : Only [b] w2 w3) {V2 : Option Addr} {c2 : Nat} (hO : Own w4 w.heap.size 36 6 V2 (zs.length + 1) c2 (ocells zs ++ ocells [⟨l[k].op, Vd, cd⟩])) (h4 : Only (ob V) w3 w4) :
    OutMid w l V2 c2 (zs ++ [⟨l[k].op, Vd, cd⟩]) (k + 1) w4 := by
  have s0 := h.below.size
  have s2 := hb2.size
  have s3 := h3.size
  have hbelow : Below w.heap.size w w4 := ((h.below.trans (hb2.mono s0)).trans (h3.below (by omega) (fun g hg => by simp at hg; omega))).trans (h4.below (by omega) (fun g hg => (h.own.row.lt g hg).1))
  have ho4 : Only (b :: ob V) w2 w4 := (h3.mono (fun i hi => by simp at hi; simp [hi])).trans (h4.mono (fun i hi => by simp [hi]))
  have hdn : ∀ {A : Option Addr} {n cc : Nat} {xs : List Value}, Own wr w.heap.size 33 2 A n cc xs → Own w4 w.heap.size 33 2 A n cc xs := fun {A n cc xs} hx => (hx.below hb2).only ho4 (fun g hg hm => by
    rcases List.mem_cons.1 hm with h1 | h1
    · have := (hx.lt g hg).2; omega
    · rcases h.own.row.2 with ⟨h2, _⟩ | ⟨g', cap, cur, hh, _, hbk, _⟩
      · injection h2 with h2; rw [h2] at h1; simp [ob] at h1
      · injection hh with hh; rw [hh] at h1; simp [ob] at h1; subst h1
        exact hx.blk_ne (t := 36) hbk (by decide) hg)
  refine ⟨hbelow, ⟨by rw [List.length_append, ocells_app]; exact hO, fun z hz => ?_⟩, ?_, ?_⟩
  · rcases List.mem_append.1 hz with hz | hz
    · exact hdn (h.own.seen z hz)
    · simp at hz; subst hz
      refine (hd.only ho4 (fun g hg hm => ?_)).mono s0
      rcases List.mem_cons.1 hm with h1 | h1
      · exact hnb g hg h1
      · have := (h.own.row.lt g h1).2; have := (hd.lt g hg).1; omega
  · rw [List.map_append, h.same, List.take_succ_eq_append_getElem hk, List.map_append]; rfl
  · rw [h.rest, opsFault_mdrop hk, if_neg (by omega)]
set_option maxRecDepth 100000 in
set_option maxHeartbeats 8000000 in
theorem lacks_any (w : World) (A : Option Addr) (c : Nat) (l : List OpAt) (K : Option Addr) (ck : Nat) (v : List Int) (h : Reads w w.heap.size 6 A l.length (ocells l)) (hs : ∀ y ∈ l, Reads w w.heap.size 2 y.at_ y.op.seen.length (dcells y.op.seen)) (hp : ∀ y ∈ l, y.op.place.size ≤ 9223372036854775807) (hl : l.length ≤ 9223372036854775807)
    (hv : Reads w w.heap.size 1 K v.length (ints v)) (hvl : v.length ≤ 9223372036854775807) :
    Calls Tryz.prog 12 #[.slice A l.length c, .slice K v.length ck] w (OutPost w (giveO (lackE (l.map OpAt.op) v) (lacksR (l.map OpAt.op) v)) (lackE (l.map OpAt.op) v)) := by
  have HR := Lib.hid h
  have HS := Lib.hid hs
  have HP := Lib.hid hp
  have HV := Lib.hid hv
  have HC := Lib.hid (vector_any w K ck v hv hvl)
  have HE0 : errV 0 = .nilIface := rfl
  clear h hs hp hv
  by_cases he : vecErr v = 0
  · rw [he, HE0] at HC
    have hv8 := (vec_ok he).1
    have HV8 := Lib.hid hv8
    by_cases hfew : 400 < l.length
    · have HF : Hid (lackE (l.map OpAt.op) v = 4) := by show _ = _; unfold lackE; rw [if_neg (by omega), if_pos (by simpa using hfew)]
      have hgt : (400 : Int) < (l.length : Int) := by omega
      have hgd : decide ((l.length : Int) > 400) = true := decide_eq_true hgt
      clear he hfew hv8
      go_enter Tryz.func12, Tryz.ntmps12
      go_wp2_with fail
      refine HC.out.mono ?_
      rintro e w1 ⟨rfl, rfl⟩
      go_wp2_with fail
      go_ret2
      rw [HF.out]
      exact out_bad (Below.refl _ _)
    · have HF : Hid (lackE (l.map OpAt.op) v = opsFault (l.map OpAt.op)) := by show _ = _; unfold lackE; rw [if_neg (by omega), if_neg (by simpa using hfew)]
      have hle : ¬ (400 : Int) < (l.length : Int) := by omega
      have hl4 : l.length ≤ 400 := by omega
      clear he hfew hv8
      go_enter Tryz.func12, Tryz.ntmps12
      go_wp2_with fail
      refine HC.out.mono ?_
      rintro e w1 ⟨rfl, rfl⟩
      have HM0 : Hid (OutMid w1 l none 0 [] 0 w1) := ⟨Below.refl _ _, ⟨Own.nil _ _ _ _, by simp⟩, rfl, rfl⟩
      go_wp2_with fail
      go_loopw [7, 22] (fun o i wr => OutLoop w1 l o i wr) (fun _ i _ => l.length - (intOf i).toNat)
      case atStart => exact ⟨0, 0, none, [], Nat.zero_le _, rfl, rfl, HM0.out⟩
      case round =>
        obtain ⟨k, cz, V, zs, hk, rfl, rfl, HM⟩ := hrel
        have k0 : (0 : Int) ≤ (k : Int) := by omega
        have hzl : zs.length ≤ k := by have := congrArg List.length HM.out.same; simp at this; omega
        by_cases hlt : k < l.length
        · have k1 : (k : Int) < (l.length : Int) := by omega
          obtain ⟨ad, rfl, _, d0, d1, d2, d3, d4, d5⟩ := (HR.out.below HM.out.below).op hlt
          have HNX := Lib.hid (fun he w2 w3 w4 hb2 Vd cd hd b hbx hnb h3 V2 c2 hO h4 => HM.out.step (w2 := w2) (w3 := w3) (w4 := w4) hlt he hb2 (Vd := Vd) (cd := cd) hd (b := b) hbx hnb h3 (V2 := V2) (c2 := c2) hO h4)
          have HBW := Lib.hid HM.out.below
          have HRS := Lib.hid (HS.out _ (List.getElem_mem hlt))
          have HPS := Lib.hid (HP.out _ (List.getElem_mem hlt))
          have HRST : Hid (opsFault (l.map OpAt.op) = if opErr l[k].op ≠ 0 then opErr l[k].op else opsFault ((l.drop (k + 1)).map OpAt.op)) := by
            show _ = _
            rw [HM.out.rest, opsFault_mdrop hlt]
          have HOZ := Lib.hid HM.out.own.row
          have hF : Fits (zs.length + 1) 72 := Fits.of_small (by omega) (by decide)
          generalize l[k] = y at *
          obtain ⟨W0, hW0⟩ : ∃ W0, W0 = wr.alloc (.cells (y.op.cells y.at_ y.cap) 36) := ⟨_, rfl⟩
          have hbX : Below wr.heap.size wr W0 := by rw [hW0]; exact (Below.refl _ _).alloc (Nat.le_refl _) _
          have hbk : Blk W0 wr.heap.size 36 (y.op.cells y.at_ y.cap) := by rw [hW0]; exact Blk.new wr _ _
          have HBK := Lib.hid hbk
          have HBX := Lib.hid hbX
          have hrs0 := ((HRS.out.below HBW.out).more HBW.out.size)
          have HCK := Lib.hid (opCheck_any W0 y.at_ y.cap y.op ((hrs0.below hbX).more hbX.size) HPS.out)
          have HRD := Lib.hid (fun W (hb : Below wr.heap.size wr W) => (hrs0.below hb).more hb.size)
          clear hbk hbX hrs0 HRS HPS
          by_cases he : opErr y.op = 0
          · obtain ⟨_, _, _, _, _, _, hs40, _⟩ := op_ok he
            have HE := Lib.hid he
            rw [he, HE0] at HCK
            have hFd : Fits (0 + y.op.seen.length) 16 := Fits.of_small (by omega) (by decide)
            clear he HRST
            obtain ⟨⟨⟨who, n⟩, what, p, letter, seen⟩, ya, yc⟩ := y
            unfold LOp.cells at hW0 HBK
            unfold LOp.val at HCK
            simp only at d0 d1 d2 d3 d4 d5 hW0 HBK HCK HRD HNX hs40 hFd
            have b0 : W0.cell? ⟨wr.heap.size, 0, none⟩ = some (.int .i64 who) := HBK.out.cell 0
            have b1 : W0.cell? ⟨wr.heap.size, 1, none⟩ = some (.int .i64 n) := HBK.out.cell 1
            have b2 : W0.cell? ⟨wr.heap.size, 2, none⟩ = some (.int .i64 what) := HBK.out.cell 2
            have b3 : W0.cell? ⟨wr.heap.size, 3, none⟩ = some (.string p) := HBK.out.cell 3
            have b4 : W0.cell? ⟨wr.heap.size, 4, none⟩ = some (.int .i64 letter) := HBK.out.cell 4
            have b5 : W0.cell? ⟨wr.heap.size, 5, none⟩ = some (.slice ya seen.length yc) := HBK.out.cell 5
            go_wp2_with fail
            rw [← hW0]
            clear hW0
            refine HCK.out.mono ?_
            rintro e w2 ⟨rfl, hb2⟩
            have HB2 := Lib.hid (HBX.out.trans (hb2.mono HBX.out.size))
            have HBK2 := Lib.hid (HBK.out.below hb2 HBK.out.lt)
            have hb2s : wr.heap.size < w2.heap.size := Nat.lt_of_lt_of_le HBK.out.lt hb2.size
            clear hb2 b0 b1 b2 b3 b4 b5 d0 d1 d2 d3 d4 d5 HCK
            have b5 : w2.cell? ⟨wr.heap.size, 5, none⟩ = some (.slice ya seen.length yc) := HBK2.out.cell 5
            have HDS := Lib.hid (HRD.out w2 HB2.out)
            have HOD := Lib.hid (oneCells_d seen)
            have HNI : Hid (Own w2 w2.heap.size 33 2 none 0 0 []) := Own.nil _ _ _ _
            have HOS : Hid (∀ (w3 : World) (u : Value), Only [] w2 w3 → Own (w3.setCell ⟨wr.heap.size, 5, none⟩ u) w1.heap.size 36 6 V zs.length cz (ocells zs)) := fun w3 u ho => ((HOZ.out.below HB2.out).only ho (by simp)).only ((Only.refl [wr.heap.size] w3).setCell (p := ⟨wr.heap.size, 5, none⟩) (.inl (by simp)) u) (fun g hg hm => by
              have := (HOZ.out.lt g hg).2; simp at hm; omega)
            have HRO := Lib.hid (fun (W : World) (N : Nat) (hN : W.heap.size = N) (Vd : Option Addr) (cd : Nat) => reads_op_at W N hN ⟨⟨⟨who, n⟩, what, p, letter, seen⟩, Vd, cd⟩)
            unfold LOp.cells at HRO
            simp only at HRO
            have hsw : w1.heap.size ≤ wr.heap.size := HBW.out.size
            have HON := Lib.hid (fun (Vd : Option Addr) (cd : Nat) => ocells_one [(⟨⟨⟨who, n⟩, what, p, letter, seen⟩, Vd, cd⟩ : OpAt)])
            go_wp2_with (first
              | (at_builtin; refine wpList_app _ (.const (.slice none 0 0)) (.tmp 32) rfl rfl elemD_ rfl rfl HNI.out HDS.out HOD.out hFd (Nat.le_refl _) ?_; intro Vd cd w3 HOd HLd HXd; have HLn : Hid (Only [] w2 w3) := HLd; have HBK3 := Lib.hid (HLn.out.blk HBK2.out (by simp)); have hs3 : w2.heap.size ≤ w3.heap.size := HLn.out.size
                 have e0 : w3.cell? ⟨wr.heap.size, 0, none⟩ = some (.int .i64 who) := HBK3.out.cell 0
                 have e1 : w3.cell? ⟨wr.heap.size, 1, none⟩ = some (.int .i64 n) := HBK3.out.cell 1
                 have e2 : w3.cell? ⟨wr.heap.size, 2, none⟩ = some (.int .i64 what) := HBK3.out.cell 2
                 have e3 : w3.cell? ⟨wr.heap.size, 3, none⟩ = some (.string p) := HBK3.out.cell 3
                 have e4 : w3.cell? ⟨wr.heap.size, 4, none⟩ = some (.int .i64 letter) := HBK3.out.cell 4
                 have e5 : w3.cell? ⟨wr.heap.size, 5, none⟩ = some (.slice ya seen.length yc) := HBK3.out.cell 5
                 have f5 := HBK3.out.frozen 5
                 have HODn := Lib.hid HOd; clear HOd HLd HXd)
              | (at_builtin; go_loud (refine wpList_app _ (.tmp 35) (.tmp 37) rfl rfl elemO_ rfl rfl ((HOS.out _ _ HLn.out).alloc _) (HRO.out _ _ (by simp [World.setCell]) _ _) (HON.out _ _) hF (by simp [World.setCell]; omega) ?_; intro V2 cv2 w4 HO4 HL4 HX4; have HFIN := Lib.hid (HNX.out HE.out w3 _ w4 (HB2.out.trans (HLn.out.below_nil.mono HB2.out.size)) Vd cd ((by simpa using HODn.out : Own w3 w2.heap.size 33 2 Vd seen.length cd (dcells seen)).mono (by omega)) wr.heap.size (Nat.le_refl _) (fun g hg => by have := (HODn.out.lt g hg).1; omega) (((Only.refl [wr.heap.size] w3).setCell (p := ⟨wr.heap.size, 5, none⟩) (.inl (by simp)) _).alloc _) V2 cv2 HO4 HL4); clear HO4 HL4 HX4)))
            go_roundw
            case rel => exact ⟨k + 1, cv2, V2, _, by omega, by go_num, by simp, HFIN.out⟩
            case measure => simp [intOf]; omega
          · have HV := Lib.hid (errV_ne he)
            rw [if_pos he] at HRST
            have HKE := Lib.hid he
            clear he HNX
            obtain ⟨⟨⟨who, n⟩, what, p, letter, seen⟩, ya, yc⟩ := y
            unfold LOp.cells at hW0 HBK
            unfold LOp.val at HCK
            simp only at d0 d1 d2 d3 d4 d5 hW0 HBK HCK HRD
            have b0 : W0.cell? ⟨wr.heap.size, 0, none⟩ = some (.int .i64 who) := HBK.out.cell 0
            have b1 : W0.cell? ⟨wr.heap.size, 1, none⟩ = some (.int .i64 n) := HBK.out.cell 1
            have b2 : W0.cell? ⟨wr.heap.size, 2, none⟩ = some (.int .i64 what) := HBK.out.cell 2
            have b3 : W0.cell? ⟨wr.heap.size, 3, none⟩ = some (.string p) := HBK.out.cell 3
            have b4 : W0.cell? ⟨wr.heap.size, 4, none⟩ = some (.int .i64 letter) := HBK.out.cell 4
            have b5 : W0.cell? ⟨wr.heap.size, 5, none⟩ = some (.slice ya seen.length yc) := HBK.out.cell 5
            generalize opErr ⟨⟨who, n⟩, what, p, letter, seen⟩ = ke at *
            go_wp2_with fail
            rw [← hW0]
            clear hW0
            refine HCK.out.mono ?_
            rintro e w2 ⟨rfl, hb2⟩
            rw [HV.out]
            have HB2 := Lib.hid (HBW.out.trans ((HBX.out.trans (hb2.mono HBX.out.size)).mono HBW.out.size))
            clear hb2
            go_wp2_with fail
            go_ret2
            have hz : giveO (lackE (l.map OpAt.op) v) (lacksR (l.map OpAt.op) v) = [] := by
              unfold giveO; rw [if_neg]; rw [HF.out, HRST.out]; exact HKE.out
            rw [hz, HF.out, HRST.out]
            exact (by have := out_bad (k := ke) HB2.out; rw [HV.out] at this; exact this)
        · have k1 : ¬ (k : Int) < (l.length : Int) := by omega
          obtain rfl : k = l.length := by omega
          have hsm : zs.map OpAt.op = l.map OpAt.op := by rw [HM.out.same, List.take_length]
          have hz0 : opsFault (l.map OpAt.op) = 0 := by rw [HM.out.rest, List.drop_length]; rfl
          have hgo := opsFault_ok hz0
          have HSL := Lib.hid (slacks_any wr V cz zs K ck v HM.out.own.row.reads (fun y hy => (op_ok (hgo y.op (by rw [← hsm]; exact List.mem_map.2 ⟨y, hy, rfl⟩))).1) (by omega) ((HV.out.below HM.out.below).more HM.out.below.size) HV8.out)
          have HMO := Lib.hid HM.out.own
          have HMB := Lib.hid HM.out.below
          have HFZ : Hid (lackE (l.map OpAt.op) v = 0) := by show _ = _; rw [HF.out, hz0]
          have HSM := Lib.hid hsm
          clear hsm hz0 hgo HM
          go_wp2_with fail
          refine HSL.out.mono ?_
          rintro e w2 ⟨V2, c2, rfl, hO, hb⟩
          have HB2 := Lib.hid (HMB.out.trans (hb.mono HMB.out.size))
          have HO2 := Lib.hid hO
          have HS2 : Hid (∀ z ∈ lacksO zs v, Own w2 w1.heap.size 33 2 z.at_ z.op.seen.length z.cap (dcells z.op.seen)) := fun z hz => (HMO.out.seen z (List.mem_filter.1 hz).1).below hb
          have hsz : w1.heap.size ≤ wr.heap.size := HMB.out.size
          clear hb hO HSL
          go_wp2_with fail
          go_ret2
          rw [HFZ.out]
          exact ⟨V2, c2, lacksO zs v, rfl, by rw [lacksO_map, HSM.out]; rfl, ⟨HO2.out.mono hsz, HS2.out⟩, HB2.out⟩
  · have HEV := Lib.hid (errV_ne he)
    have HF : Hid (lackE (l.map OpAt.op) v = vecErr v) := if_pos he
    have HG : Hid (giveO (vecErr v) (lacksR (l.map OpAt.op) v) = []) := if_neg he
    clear he
    generalize vecErr v = ke at *
    go_enter Tryz.func12, Tryz.ntmps12
    go_wp2_with fail
    refine HC.out.mono ?_
    rintro e w1 ⟨rfl, rfl⟩
    rw [HEV.out]
    go_wp2_with fail
    go_ret2
    rw [HF.out, HG.out]
    have := out_bad (k := ke) (Below.refl w1.heap.size w1)
    rw [HEV.out] at this
    exact this
end Go.Proofs.YtmpkgbkdndpnlaaGreat
/- (*log.Log).Crash, walked. Conditions: the log is right. -/
namespace Go.Proofs.YtmpkgbkdndpnlaaGreat
open Go.RowKit
set_option linter.unusedVariables false
section
variable (w : World) (B : Nat) (S : List Nat) (b : Nat) (L : LLog) (bd : Nat) (SD : List Nat) (D : DLay) (h : LogIs w B S b L bd SD D) (ok : L.Ok)
include h ok
set_option maxRecDepth 100000 in
set_option maxHeartbeats 8000000 in
theorem lcrash_any (keep : Int) (hk0 : -9223372036854775808 ≤ keep) (hk1 : keep ≤ 9223372036854775807) :
    Calls Tryz.prog 11 #[.pointer (some ⟨b, 0, none⟩), .int .i64 keep] w (fun e w' => e = .returned (.tuple #[]) ∧ LogTo w B S b (L.crash keep) w') := by
  obtain ⟨c0, c1, c2, c3, c4⟩ := five_ w B S b L bd SD D L.doc h
  have hbz : (strOf L.bytes).size = L.m := by rw [strOf_sz, ok.bytes_len]
  have hms := ok.m_small
  have hsf := ok.safe
  obtain ⟨s, hs⟩ : ∃ s, s = strOf L.bytes := ⟨_, rfl⟩
  rw [← hs] at c1 hbz
  obtain ⟨sf, hsfe⟩ : ∃ sf, sf = L.safe := ⟨_, rfl⟩
  rw [← hsfe] at c2 hsf
  obtain ⟨r, hr⟩ : ∃ r : Int, r = min keep ((s.size : Int) - (sf : Int)) := ⟨_, rfl⟩
  obtain ⟨q, hq⟩ : ∃ q : Int, q = max 0 r := ⟨_, rfl⟩
  have hmn : ∀ W, (Builtin.min_ #[3, 3] 3 #[.int .i64 keep, .int .i64 ((s.size : Int) - (sf : Int))]).run Tryz.prog W = .ok (.int .i64 r) W := fun W => by rw [run_min_int2, hr]; congr 2; split <;> omega
  have hmx : ∀ W, (Builtin.max_ #[3, 3] 3 #[.int .i64 0, .int .i64 r]).run Tryz.prog W = .ok (.int .i64 q) W := fun W => by rw [run_max_int2, hq]; congr 2; split <;> omega
  have hhigh : L.high keep = ((sf : Int) + q).toNat := by
    unfold LLog.high
    rw [← hsfe, hq, hr, hbz]
    omega
  have hhl := LLog.high_le ok keep
  obtain ⟨k, hk⟩ : ∃ k, k = L.high keep := ⟨_, rfl⟩
  have q0 : 0 ≤ q := by omega
  have q1 : (sf : Int) + q ≤ (s.size : Int) := by omega
  have q2 : ((sf : Int) + q).toNat = k := by rw [hk, hhigh]
  have q3 : (0 : Int) ≤ (sf : Int) + q := by omega
  have q4 : (s.size : Int) ≤ 56400 := by omega
  have q5 : (sf : Int) ≤ (s.size : Int) := by omega
  have q6 : (0 : Int) ≤ (sf : Int) := by omega
  have hex : s.extract 0 k = strOf (L.bytes.take k) := by rw [hs, strOf_ext]; rfl
  have HEX := Lib.hid hex
  have hred := ok.redo (k := k) (by rw [hk]; exact hhl)
  have HRED := Lib.hid hred
  have HK := Lib.hid hk
  have HI := Lib.hid h
  have HOK := Lib.hid ok
  have HRE := Lib.hid (fun W => redo_any W (L.bytes.take k) (by rw [List.length_take, ok.bytes_len]; omega))
  unfold RedoPost at HRE
  rw [hred] at HRE
  clear hs hsfe hr hq hhigh hhl hk hex hred h ok hbz hms hsf
  go_enter Tryz.func11, Tryz.ntmps11
  go_wp2_with fail
  go_region
  rw [HEX.out]
  obtain ⟨t, ht⟩ : ∃ t, t = strOf (L.bytes.take k) := ⟨_, rfl⟩
  have hwm := whole_min L.all k
  obtain ⟨al, hal⟩ : ∃ al, al = L.all.take (whole L.all k) := ⟨_, rfl⟩
  obtain ⟨n, hn⟩ : ∃ n, n = (packBody al).length := ⟨_, rfl⟩
  have hkm : k ≤ L.m := by rw [HK.out]; exact LLog.high_le HOK.out keep
  have hbt : L.bytes.take k = (packBody L.all).take k := by unfold LLog.bytes; rw [List.take_take, Nat.min_eq_left hkm]
  have htn : t.extract 0 n = strOf (packBody al) := by
    rw [ht, strOf_ext, hbt, hn, hal, hwm]; rfl
  have hnt : n ≤ t.size := by
    rw [ht, strOf_sz, hbt, hn, hal, ← hwm, List.length_take]
    exact Nat.min_le_right _ _
  have hts : t.size ≤ 56400 := by rw [ht, strOf_sz, List.length_take, HOK.out.bytes_len]; have := HOK.out.m_small; omega
  have HC : Hid (L.crash keep = ⟨al, n, n, -1, false⟩) := by show _ = _; unfold LLog.crash; rw [← HK.out, ← hal, ← hn]
  have HCD : Hid ((L.crash keep).doc = LDoc.new.all al) := by
    show _ = _
    rw [HC.out]
    unfold LLog.doc LLog.kept
    simp only
    rw [whole_all _ _ (by rw [hn]; exact Nat.le_refl _), List.take_length]
  have HCB : Hid ((L.crash keep).bytes = packBody al) := by
    show _ = _
    rw [HC.out]
    unfold LLog.bytes
    simp only
    rw [hn, List.take_length]
  rw [← hal, ← hn, ← ht] at HRE
  rw [← ht]
  have HTN := Lib.hid htn
  have HI1 : Hid (LogSt w.drew B S b L bd SD D L.doc) := HI.out.drewN 1
  have HO1 : Hid (Only S w w.drew) := (Only.refl S w).drew
  clear c0 c1 c2 c3 c4 hmn hmx q0 q1 q2 q3 q4 q5 q6 hwm hn hal hbt htn hkm ht HEX HRED
  generalize w.drew = W1 at *
  go_wp2_with fail
  refine (HRE.out W1).mono ?_
  rintro en w2 ⟨bn, Sn, Dn, rfl, hdn, hb2⟩
  have HDN := Lib.hid hdn
  have HB2 := Lib.hid hb2
  have HBK := Lib.hid (HI1.out.blk.below hb2 HI1.out.base.2)
  have x0 := HBK.out.cell 0
  have x1 := HBK.out.cell 1
  have x2 := HBK.out.cell 2
  have x3 := HBK.out.cell 3
  have x4 := HBK.out.cell 4
  have f0 := HBK.out.frozen 0
  have f1 := HBK.out.frozen 1
  have f2 := HBK.out.frozen 2
  have f3 := HBK.out.frozen 3
  have f4 := HBK.out.frozen 4
  unfold LLog.cells at x0 x1 x2 x3 x4
  simp only [List.getElem?_toArray, List.getElem?_cons_zero, List.getElem?_cons_succ] at x0 x1 x2 x3 x4
  have n0 : (n : Int) ≤ (t.size : Int) := by omega
  have n1 : (0 : Int) ≤ (n : Int) := by omega
  have n2 : (n : Int) ≤ 56400 := by omega
  have n3 : (n : Int).toNat = n := by omega
  clear hdn hb2 HRE
  go_wp2_with fail
  go_region
  go_wp2_with fail
  first | go_end0 | (refine bodyPost_ret (results_none rfl _ _ _) rfl ?_)
  refine ⟨rfl, ?_⟩
  have hblk : Blk (((((w2.setCell ⟨b, 0, none⟩ (.pointer (some ⟨bn, 0, none⟩))).setCell ⟨b, 1, none⟩ (.string (t.extract 0 n))).setCell ⟨b, 2, none⟩ (.int .i64 (n : Int))).setCell ⟨b, 3, none⟩ (.int .i64 (-1))).setCell ⟨b, 4, none⟩ (.bool false)).drew b 68 ((L.crash keep).cells bn) := by
    have h3 := ((((HBK.out.set_ 0 (.pointer (some ⟨bn, 0, none⟩))).set_ 1 (.string (t.extract 0 n))).set_ 2 (.int .i64 (n : Int))).set_ 3 (.int .i64 (-1))).set_ 4 (.bool false)
    have e : (L.crash keep).cells bn = #[.pointer (some ⟨bn, 0, none⟩), .string (t.extract 0 n), .int .i64 (n : Int), .int .i64 (-1), .bool false] := by
      unfold LLog.cells
      rw [HCB.out, HTN.out, HC.out]
    rw [e]
    exact h3
  have ho : Only [b] w2 (((((w2.setCell ⟨b, 0, none⟩ (.pointer (some ⟨bn, 0, none⟩))).setCell ⟨b, 1, none⟩ (.string (t.extract 0 n))).setCell ⟨b, 2, none⟩ (.int .i64 (n : Int))).setCell ⟨b, 3, none⟩ (.int .i64 (-1))).setCell ⟨b, 4, none⟩ (.bool false)).drew :=
    ((((((Only.refl [b] w2).setCell (.inl (by simp)) _).setCell (.inl (by simp)) _).setCell (.inl (by simp)) _).setCell (.inl (by simp)) _).setCell (.inl (by simp)) _).drew
  have hbw : B ≤ W1.heap.size := by have := HI1.out.base; omega
  obtain ⟨k1, k2, k3⟩ := LogSt.lay (L' := L.crash keep) HI1.out hbw HB2.out HDN.out ho hblk
  refine ⟨b :: Sn, bn, Sn, Dn, ?_, HO1.out.trans_new k2 (fun i hi => .inl hi), ?_⟩
  · show LogSt _ B _ b _ bn Sn Dn (L.crash keep).doc
    rw [HCD.out]
    exact k1
  · intro g hg
    rcases k3 g hg with h5 | h5
    · exact .inl h5
    · exact .inr (Nat.le_trans HO1.out.size h5)
end
end Go.Proofs.YtmpkgbkdndpnlaaGreat
/- A document and a log beside each other, and rows of ops apart from both: the steps of a law. Conditions: none of our own. -/
namespace Go.Proofs.YtmpkgbkdndpnlaaGreat
open Go.RowKit
set_option linter.unusedVariables false
/-- The blocks: those of the document, those of the log. -/
structure DL (w : World) (B b1 : Nat) (s1 : LDoc) (b : Nat) (L : LLog) (wr : World) (S1 : List Nat) (D1 : DLay) (S2 : List Nat) (bd : Nat) (SD : List Nat) (D : DLay) : Prop where
  one : DocIs wr B S1 b1 s1 D1
  log : LogIs wr B S2 b L bd SD D
  apart : ∀ g ∈ S1, g ∉ S2
  ok1 : s1.Ok
  ok : L.Ok
  below : Below w.heap.size w wr
  base : w.heap.size ≤ B
def DLScene (w : World) (B b1 : Nat) (s1 : LDoc) (b : Nat) (L : LLog) (rows : List (Option Addr × List OpAt)) (wr : World) : Prop :=
  ∃ S1 D1 S2 bd SD D, DL w B b1 s1 b L wr S1 D1 S2 bd SD D ∧ ∀ r ∈ rows, OpsBy wr (S1 ++ S2) r.1 r.2
namespace DLScene
variable {w wr w' : World} {B b1 b : Nat} {s1 s : LDoc} {L L' : LLog} {rows : List (Option Addr × List OpAt)}
theorem below (h : DLScene w B b1 s1 b L rows wr) : Below w.heap.size w wr := by
  obtain ⟨S1, D1, S2, bd, SD, D, h1, h2⟩ := h
  exact h1.below
theorem okL (h : DLScene w B b1 s1 b L rows wr) : L.Ok := by
  obtain ⟨S1, D1, S2, bd, SD, D, h1, h2⟩ := h
  exact h1.ok
theorem okD (h : DLScene w B b1 s1 b L rows wr) : s1.Ok := by
  obtain ⟨S1, D1, S2, bd, SD, D, h1, h2⟩ := h
  exact h1.ok1
theorem step (h : DLScene w B b1 s1 b L rows wr) (hb : Below wr.heap.size wr w') : DLScene w B b1 s1 b L rows w' := by
  obtain ⟨S1, D1, S2, bd, SD, D, h1, h2⟩ := h
  exact ⟨S1, D1, S2, bd, SD, D, ⟨h1.one.below hb, h1.log.below hb, h1.apart, h1.ok1, h1.ok, h1.below.trans (hb.mono h1.below.size), h1.base⟩, fun r hr => (h2 r hr).below hb⟩
theorem make {e e2 : Ending} {w1 w2 : World} (hw : Below w.heap.size w wr) (h1 : NewPost wr e w1) (h2 : LNewPost w1 e2 w2) : ∃ b1 b, e = .returned (.pointer (some ⟨b1, 0, none⟩)) ∧ e2 = .returned (.pointer (some ⟨b, 0, none⟩)) ∧ DLScene w wr.heap.size b1 LDoc.new b LLog.new [] w2 := by
  obtain ⟨b1, S1, D1, rfl, hd, hb1⟩ := h1
  obtain ⟨b, S2, bd, SD, D, rfl, hl, hb2⟩ := h2
  have hs := hb1.size
  refine ⟨b1, b, rfl, rfl, S1, D1, S2, bd, SD, D, ⟨hd.below hb2, ⟨hl.blk, ?_, hl.sub, hl.subb, hl.apart, fun g hg => ⟨Nat.le_trans hs (hl.own g hg).1, (hl.own g hg).2⟩⟩, fun g hg hm => ?_, LDoc.new_ok, LLog.new_ok, hw.trans ((hb1.trans (hb2.mono hs)).mono hw.size), hw.size⟩, by simp⟩
  · have h1 := hl.doc
    exact { h1 with book := h1.book.mono hs, marks := h1.marks.mono hs, known := h1.known.mono hs, ops := h1.ops.mono hs, seen := fun y hy => (h1.seen y hy).mono hs, own := fun g hg => ⟨Nat.le_trans hs (h1.own g hg).1, (h1.own g hg).2⟩ }
  · have := (hd.own g hg).2
    have := (hl.own g hm).1
    omega
/-- The document goes on. -/
theorem docTo (h : DLScene w B b1 s1 b L rows wr) : ∃ S1 D1, DocIs wr B S1 b1 s1 D1 ∧ (∀ r ∈ rows, OpsBy wr S1 r.1 r.2) ∧ ∀ s w', s.Ok → DocTo wr B S1 b1 s w' → DLScene w B b1 s b L rows w' := by
  obtain ⟨S1, D1, S2, bd, SD, D, h1, h2⟩ := h
  refine ⟨S1, D1, h1.one, fun r hr => (h2 r hr).sub (fun g hg => by simp [hg]), fun s w' hs ht => ?_⟩
  obtain ⟨S', D', k1, k2, k3⟩ := ht
  refine ⟨S', D', S2, bd, SD, D, ⟨k1, h1.log.only k2 (fun g hg => h1.apart g hg), fun g hg hm => ?_, hs, h1.ok, h1.below.trans (k2.below h1.below.size (fun g hg => by have := (h1.one.own g hg).1; have := h1.base; omega)), h1.base⟩, fun r hr => (h2 r hr).only k2 (fun g hg => .inl (by simp [hg])) (fun g hg => ?_)⟩
  · rcases k3 g hg with h4 | h4
    · exact h1.apart g h4 hm
    · have := (h1.log.own g hm).2; omega
  · rcases List.mem_append.1 hg with h | h
    · rcases k3 g h with h3 | h3
      · exact .inl (by simp [h3])
      · exact .inr h3
    · exact .inl (by simp [h])
/-- The log goes on. -/
theorem logTo (h : DLScene w B b1 s1 b L rows wr) : ∃ S2 bd SD D, LogIs wr B S2 b L bd SD D ∧ (∀ r ∈ rows, OpsBy wr S2 r.1 r.2) ∧ ∀ L' w', L'.Ok → LogTo wr B S2 b L' w' → DLScene w B b1 s1 b L' rows w' := by
  obtain ⟨S1, D1, S2, bd, SD, D, h1, h2⟩ := h
  refine ⟨S2, bd, SD, D, h1.log, fun r hr => (h2 r hr).sub (fun g hg => by simp [hg]), fun L' w' hs ht => ?_⟩
  obtain ⟨S', bd', SD', D', k1, k2, k3⟩ := ht
  refine ⟨S1, D1, S', bd', SD', D', ⟨h1.one.only k2 (fun g hg hm => h1.apart g hm hg), k1, fun g hg hm => ?_, h1.ok1, hs, h1.below.trans (k2.below h1.below.size (fun g hg => by have := (h1.log.own g hg).1; have := h1.base; omega)), h1.base⟩, fun r hr => (h2 r hr).only k2 (fun g hg => .inl (by simp [hg])) (fun g hg => ?_)⟩
  · rcases k3 g hm with h4 | h4
    · exact h1.apart g hg h4
    · have := (h1.one.own g hg).2; omega
  · rcases List.mem_append.1 hg with h | h
    · exact .inl (by simp [h])
    · rcases k3 g h with h3 | h3
      · exact .inl (by simp [h3])
      · exact .inr h3
theorem apply (h : DLScene w B b1 s1 b L rows wr) (o : LOp) (A : Option Addr) (c : Nat) (hp : o.place.size ≤ 9223372036854775807) (hr : Reads w w.heap.size 2 A o.seen.length (dcells o.seen)) :
    Calls Tryz.prog 8 #[.pointer (some ⟨b1, 0, none⟩), o.val A c] wr (fun e w' => e = .returned (.tuple #[.bool (s1.applyB o), errV (s1.applyE o)]) ∧ DLScene w B b1 (s1.apply o) b L rows w') := by
  have hb := h.below
  have hok := h.okD
  obtain ⟨S1, D1, S2, bd, SD, D, h1, _⟩ := id h
  obtain ⟨S1', D1', k1, _, k3⟩ := h.docTo
  refine (apply_doc wr B S1' b1 s1 D1' k1 hok o A c hp ((hr.below hb).more hb.size) (fun hn g hg hm => ?_)).mono ?_
  · exact hr.far (S := S1') (fun g hg => Nat.le_trans h1.base (k1.own g hg).1) hn g hg hm
  · rintro e w' ⟨rfl, ht⟩
    exact ⟨rfl, k3 _ _ (LDoc.apply_ok hok o) ht⟩
theorem put (h : DLScene w B b1 s1 b L rows wr) (o : LOp) (A : Option Addr) (c : Nat) (hp : o.place.size ≤ 9223372036854775807) (hr : Reads w w.heap.size 2 A o.seen.length (dcells o.seen)) :
    Calls Tryz.prog 9 #[.pointer (some ⟨b, 0, none⟩), o.val A c] wr (fun e w' => e = .returned (.tuple #[.bool (L.putB o), errV (L.putE o)]) ∧ DLScene w B b1 s1 b (L.put o) rows w') := by
  have hb := h.below
  have hok := h.okL
  obtain ⟨S1, D1, S2, bd, SD, D, h1, _⟩ := id h
  obtain ⟨S2', bd', SD', D', k1, _, k3⟩ := h.logTo
  refine (lput_any wr B S2' b L bd' SD' D' k1 hok o A c hp ((hr.below hb).more hb.size) (fun hn g hg hm => ?_)).mono ?_
  · exact hr.far (S := S2') (fun g hg => Nat.le_trans h1.base (k1.own g hg).1) hn g hg hm
  · rintro e w' ⟨rfl, ht⟩
    exact ⟨rfl, k3 _ _ (hok.put o) ht⟩
/-- An op of a row is put. -/
theorem putRow (h : DLScene w B b1 s1 b L rows wr) {V : Option Addr} {zs : List OpAt} (hr : (V, zs) ∈ rows) {k : Nat} (hk : k < zs.length) :
    ∃ ad, V = some ad ∧ wr.cell? (ad.add (k * 6)) = some (.int .i64 zs[k].op.dot.who) ∧ wr.cell? ⟨(ad.add (k * 6)).block, (ad.add (k * 6)).off + 1, none⟩ = some (.int .i64 zs[k].op.dot.n) ∧ wr.cell? ⟨(ad.add (k * 6)).block, (ad.add (k * 6)).off + 2, none⟩ = some (.int .i64 zs[k].op.what) ∧
      wr.cell? ⟨(ad.add (k * 6)).block, (ad.add (k * 6)).off + 3, none⟩ = some (.string zs[k].op.place) ∧ wr.cell? ⟨(ad.add (k * 6)).block, (ad.add (k * 6)).off + 4, none⟩ = some (.int .i64 zs[k].op.letter) ∧ wr.cell? ⟨(ad.add (k * 6)).block, (ad.add (k * 6)).off + 5, none⟩ = some (.slice zs[k].at_ zs[k].op.seen.length zs[k].cap) ∧
      Calls Tryz.prog 9 #[.pointer (some ⟨b, 0, none⟩), zs[k].op.val zs[k].at_ zs[k].cap] wr (fun e w' => e = .returned (.tuple #[.bool (L.putB zs[k].op), errV (L.putE zs[k].op)]) ∧ DLScene w B b1 s1 b (L.put zs[k].op) rows w') := by
  have hok := h.okL
  obtain ⟨S2', bd', SD', D', k1, k2, k3⟩ := h.logTo
  have hby := k2 _ hr
  obtain ⟨ad, rfl, hab, c0, c1, c2, c3, c4, c5⟩ := hby.row.op hk
  obtain ⟨f1, f2, f3⟩ := hby.each _ (List.getElem_mem hk)
  refine ⟨ad, rfl, c0, c1, c2, c3, c4, c5, (lput_any wr B S2' b L bd' SD' D' k1 hok zs[k].op zs[k].at_ zs[k].cap f2 f1 f3).mono ?_⟩
  rintro e w' ⟨rfl, ht⟩
  exact ⟨rfl, k3 _ _ (hok.put _) ht⟩
theorem sync (h : DLScene w B b1 s1 b L rows wr) : Calls Tryz.prog 10 #[.pointer (some ⟨b, 0, none⟩)] wr (fun e w' => e = .returned (errV L.syncE) ∧ DLScene w B b1 s1 b L.sync rows w') := by
  have hok := h.okL
  obtain ⟨S2', bd', SD', D', k1, k2, k3⟩ := h.logTo
  refine (lsync_any wr B S2' b L bd' SD' D' L.doc k1 hok).mono ?_
  rintro e w' ⟨rfl, g1, g2⟩
  refine ⟨rfl, k3 _ _ hok.sync ⟨S2', bd', SD', D', ?_, g2.mono (fun i hi => by simp at hi; subst hi; exact .inl k1.subb), fun g hg => .inl hg⟩⟩
  have : L.sync.doc = L.doc := by
    unfold LLog.sync
    split
    · rfl
    split <;> rfl
  show LogSt _ _ _ _ _ _ _ _ L.sync.doc
  rw [this]
  exact g1
theorem crash (h : DLScene w B b1 s1 b L rows wr) (keep : Int) (hk0 : -9223372036854775808 ≤ keep) (hk1 : keep ≤ 9223372036854775807) : Calls Tryz.prog 11 #[.pointer (some ⟨b, 0, none⟩), .int .i64 keep] wr (fun e w' => e = .returned (.tuple #[]) ∧ DLScene w B b1 s1 b (L.crash keep) rows w') := by
  have hok := h.okL
  obtain ⟨S2', bd', SD', D', k1, k2, k3⟩ := h.logTo
  refine (lcrash_any wr B S2' b L bd' SD' D' k1 hok keep hk0 hk1).mono ?_
  rintro e w' ⟨rfl, ht⟩
  exact ⟨rfl, k3 _ _ (hok.crash keep) ht⟩
theorem doc (h : DLScene w B b1 s1 b L rows wr) : Calls Tryz.prog 14 #[.pointer (some ⟨b, 0, none⟩)] wr (fun e w' => ∃ bd SD D, e = .returned (.pointer (some ⟨bd, 0, none⟩)) ∧ w' = wr ∧ DocIs wr B SD bd L.doc D ∧ L.doc.Ok) := by
  have hok := h.okL
  obtain ⟨S2', bd', SD', D', k1, k2, k3⟩ := h.logTo
  refine (ldoc_any wr B S2' b L bd' SD' D' L.doc k1).mono ?_
  rintro e w' ⟨rfl, rfl⟩
  exact ⟨bd', SD', D', rfl, rfl, k1.doc, hok.doc_ok⟩
/-- A row of the call's own, newly laid. -/
theorem row (h : DLScene w B b1 s1 b L rows wr) {N c : Nat} {V : Option Addr} {zs : List OpAt} (hb : Below wr.heap.size wr w') (hN : wr.heap.size ≤ N) (ho : OwnOps w' N V c zs) (hp : ∀ o ∈ zs.map OpAt.op, o.place.size ≤ 12) : DLScene w B b1 s1 b L ((V, zs) :: rows) w' := by
  obtain ⟨S1, D1, S2, bd, SD, D, h1, h2⟩ := h
  refine ⟨S1, D1, S2, bd, SD, D, ⟨h1.one.below hb, h1.log.below hb, h1.apart, h1.ok1, h1.ok, h1.below.trans (hb.mono h1.below.size), h1.base⟩, fun r hr => ?_⟩
  rcases List.mem_cons.1 hr with rfl | hr
  · exact OpsBy.of_own ho hp (fun g hg => by
      rcases List.mem_append.1 hg with h | h
      · have := (h1.one.own g h).2; omega
      · have := (h1.log.own g h).2; omega)
  · exact (h2 r hr).below hb
end DLScene
end Go.Proofs.YtmpkgbkdndpnlaaGreat
/- What a log lacks behind a crash: plain. Conditions: none. -/
namespace Go.Proofs.YtmpkgbkdndpnlaaGreat
open Go.RowKit
set_option linter.unusedVariables false
theorem goes_new : ∀ {l : List LOp} {d : LDoc}, d.Ok → Goes d l → ∀ o ∈ l, nOf d.known o.dot < o.dot.n
  | [], d => fun _ _ o ho => by simp at ho
  | x :: t, d => fun ok h o ho => by
    obtain ⟨h1, h2, h3, h4, h5⟩ := LDoc.applyB_ok ok h.1
    obtain ⟨a1, a2, a3⟩ := add_ok h2
    rcases List.mem_cons.1 ho with rfl | ho
    · omega
    · have ih := goes_new (LDoc.apply_ok ok x) h.2 o ho
      have hk : (d.apply x).known = addRes d.known x.dot := by unfold LDoc.apply; rw [if_pos h.1]
      have hoe := Goes.errs h.2 o ho
      have hod := (op_ok hoe).1
      rw [hk, nOf_add a1 a2 hod] at ih
      split at ih
      · rename_i hw
        have : nOf d.known o.dot = nOf d.known x.dot := by unfold nOf; rw [hw]
        omega
      · exact ih
theorem lacksR_app (a b : List LOp) (v : List Int) : lacksR (a ++ b) v = lacksR a v ++ lacksR b v := by unfold lacksR; rw [List.filter_append]
theorem lacksR_all {l : List LOp} {v : List Int} (h : ∀ o ∈ l, nOf v o.dot < o.dot.n) : lacksR l v = l := by
  unfold lacksR
  refine List.filter_eq_self.2 fun o ho => ?_
  unfold lacksB
  simpa using h o ho
/-- What is lacking is what comes behind. -/
theorem lacks_drop {l : List LOp} (h : Goes LDoc.new l) (j : Nat) : lacksR l (LDoc.new.all (l.take j)).known = l.drop j := by
  have hk := LDoc.all_ok (l.take j) LDoc.new_ok
  have ht := h.take j
  have hd : Goes (LDoc.new.all (l.take j)) (l.drop j) := (Goes.app.1 (by rw [List.take_append_drop]; exact h : Goes LDoc.new (l.take j ++ l.drop j))).2
  have ho := ht.ops
  have e1 : lacksR (l.take j) (LDoc.new.all (l.take j)).known = [] := LDoc.lacks_none (d := LDoc.new.all (l.take j)) (fun o hm => (hk.ops o (by rw [ho]; simpa [LDoc.new] using hm)).2)
  have e2 := lacksR_all (goes_new hk hd)
  conv => lhs; rw [← List.take_append_drop j l]
  rw [lacksR_app, List.take_append_drop, e1, e2, List.nil_append]
/-- A log that is not told to fail goes on with a document. -/
structure KeptAt (L : LLog) (st : LDoc) : Prop where
  ok : L.Ok
  run : L.stopped = false
  left : L.left = -1
  doc : L.doc = st
theorem KeptAt.new : KeptAt LLog.new LDoc.new := ⟨LLog.new_ok, rfl, rfl, rfl⟩
theorem KeptAt.put {L : LLog} {st : LDoc} (h : KeptAt L st) (o : LOp) : KeptAt (L.put o) (st.apply o) ∧ L.putB o = st.applyB o ∧ L.putE o = st.applyE o := by
  obtain ⟨h1, h2, h3, rfl⟩ := h
  cases hb : L.doc.applyB o with
  | true =>
    obtain ⟨p1, p2, p3, p4, p5⟩ := LLog.put_go h1 h2 hb (by rw [h3]; decide)
    refine ⟨⟨h1.put o, by rw [p1], by rw [p1]; show LLog.down L.left = -1; rw [h3]; decide, p2⟩, p5, by rw [p4, LDoc.applyB_E hb]⟩
  | false =>
    have e : L.put o = L := by unfold LLog.put; rw [if_neg (by rw [h2]; decide), if_pos hb]
    have e2 : L.doc.apply o = L.doc := by unfold LDoc.apply; rw [hb]; rfl
    rw [e, e2]
    refine ⟨⟨h1, h2, h3, rfl⟩, by unfold LLog.putB; rw [hb]; simp, ?_⟩
    unfold LLog.putE
    rw [if_neg (by rw [h2]; decide)]
    split
    · rfl
    · rename_i hz
      exact (Decidable.not_not.1 hz).symm
theorem KeptAt.sync {L : LLog} {st : LDoc} (h : KeptAt L st) : KeptAt L.sync st ∧ L.syncE = 0 := by
  obtain ⟨h1, h2, h3, rfl⟩ := h
  have e : L.sync = { L with left := LLog.down L.left, safe := L.m } := by unfold LLog.sync; rw [if_neg (by rw [h2]; decide), if_neg (by rw [h3]; decide)]
  refine ⟨⟨h1.sync, by rw [e]; exact h2, by rw [e]; show LLog.down L.left = -1; rw [h3]; decide, by rw [e]; rfl⟩, ?_⟩
  unfold LLog.syncE
  rw [if_neg (by rw [h2]; decide), if_neg (by rw [h3]; decide)]
/-- Behind the crash: which ops are there. -/
theorem KeptAt.crash {L : LLog} {st : LDoc} (h : KeptAt L st) (keep : Int) : ∃ j, KeptAt (L.crash keep) (LDoc.new.all (L.all.take j)) ∧ L.all = st.ops ∧ st = LDoc.new.all st.ops ∧ Goes LDoc.new st.ops := by
  obtain ⟨h1, h2, h3, rfl⟩ := h
  have hd : L.doc = LDoc.new.all L.all := by unfold LLog.doc; rw [h1.kept_all h2]
  have ho : L.doc.ops = L.all := by rw [hd, h1.goes.ops]; simp [LDoc.new]
  refine ⟨whole L.all (L.high keep), ⟨h1.crash keep, rfl, rfl, ?_⟩, ho.symm, by rw [ho, hd], by rw [ho]; exact h1.goes⟩
  unfold LLog.doc
  rw [(h1.crash keep).kept_all rfl]
  rfl
theorem goes_at {l : List LOp} (h : Goes LDoc.new l) {k : Nat} (hk : k < l.length) : (LDoc.new.all (l.take k)).applyB l[k] = true ∧ (LDoc.new.all (l.take k)).apply l[k] = LDoc.new.all (l.take (k + 1)) := by
  have h1 : l.take (k + 1) = l.take k ++ [l[k]] := List.take_succ_eq_append_getElem hk
  have h2 := h.take (k + 1)
  rw [h1] at h2
  exact ⟨(Goes.app.1 h2).2.1, by rw [h1, LDoc.all_app]; rfl⟩
end Go.Proofs.YtmpkgbkdndpnlaaGreat
/- leaftop.one, walked: it answers true. Conditions: none. -/
namespace Go.Proofs.YtmpkgbkdndpnlaaGreat
open Go.RowKit
set_option linter.unusedVariables false
set_option maxRecDepth 100000 in
set_option maxHeartbeats 4000000 in
theorem one_any (w : World) : Calls Tryz.prog 5 #[] w (CheckPost w (.bool true)) := by
  have HE0 : errV 0 = .nilIface := rfl
  have HN := Lib.hid (new_doc w)
  have OK := Lib.hid hi_ok
  have HTX := Lib.hid hi_text
  go_enter Tryz.func5, Tryz.ntmps5
  go_wp2_with fail
  refine HN.out.mono ?_
  rintro e w1 ⟨b1, S1, D1, rfl, hd1, hb1⟩
  have HD1 := Lib.hid hd1
  have HB1 := Lib.hid hb1
  have HI := Lib.hid (insert_any w1 _ _ _ _ _ hd1 LDoc.new_ok 1 0 hiT (by decide) (by decide) (by decide) (by decide))
  unfold hiT at HI
  have HIN : Hid (LDoc.new.insE 1 0 ⟨#[104, 105]⟩ = 0) := hi_ins
  clear hd1 hb1 HN
  go_wp2_with fail
  refine HI.out.mono ?_
  rintro e w2 ⟨V2, c2, zs, rfl, hz1, hz2, hb2⟩
  rw [HIN.out, HE0]
  have HDO := Lib.hid (do_ins HD1.out LDoc.new_ok hz1 hz2 hb2)
  have HDE : Hid (LDoc.new.doE (LDoc.new.insR 1 0 ⟨#[104, 105]⟩) = 0) := hi_do
  have HB2 := Lib.hid (HB1.out.trans (hb2.mono HB1.out.size))
  have HS1 : Hid (∀ g ∈ S1, w.heap.size ≤ g) := fun g hg => (HD1.out.own g hg).1
  clear hz1 hz2 hb2 HI HD1 HB1
  go_wp2_with fail
  refine HDO.out.mono ?_
  rintro e w3 ⟨rfl, S3, D3, hd3, ho3, hs3⟩
  rw [HDE.out, HE0]
  have HB3 := Lib.hid (HB2.out.trans (ho3.below HB2.out.size HS1.out))
  have HT := Lib.hid (text_doc w3 _ _ _ _ _ hd3 OK.out)
  rw [show textOf (LDoc.new.doR (LDoc.new.insR 1 0 ⟨#[104, 105]⟩)).book = hiT from HTX.out] at HT
  unfold hiT at HT
  clear hd3 ho3 hs3 HDO HB2 HS1
  go_wp2_with fail
  refine HT.out.mono ?_
  rintro e w4 ⟨rfl, hb⟩
  have HB4 := Lib.hid (HB3.out.trans (hb.mono HB3.out.size))
  clear hb HT
  go_wp2_with fail
  go_ret
  exact ⟨rfl, HB4.out⟩
end Go.Proofs.YtmpkgbkdndpnlaaGreat
/- leaftop.TopKept, walked. Conditions: none of our own. -/
namespace Go.Proofs.YtmpkgbkdndpnlaaGreat
open Go.RowKit
set_option linter.unusedVariables false
namespace lawTopKept
def K1 (w : World) (B b1 b : Nat) (l : List OpAt) (i : Value) (wr : World) : Prop := ∃ (k : Nat) (st : LDoc) (L : LLog), k ≤ l.length ∧ k ≤ 60 ∧ i = .int .i64 (k : Nat) ∧ Hid (DLScene w B b1 st b L [] wr) ∧ Hid (KeptAt L st)
def K2 (w : World) (B b1 b : Nat) (st : LDoc) (j : Nat) (V : Option Addr) (zs : List OpAt) (i : Value) (wr : World) : Prop := ∃ (k : Nat) (L : LLog), k ≤ zs.length ∧ i = .int .i64 (k : Nat) ∧ Hid (DLScene w B b1 st b L [(V, zs)] wr) ∧ Hid (KeptAt L (LDoc.new.all (st.ops.take (j + k))))
theorem small_of {st : LDoc} (ok : st.Ok) {l : List LOp} (h : ∀ o ∈ l, o ∈ st.ops) : ∀ o ∈ l, o.place.size ≤ 12 := fun o ho => placeErr_len (opOk_of (ok.ops o (h o ho)).1).place
set_option maxRecDepth 100000 in
set_option maxHeartbeats 16000000 in
theorem walk (w : World) (A : Option Addr) (ca : Nat) (l : List OpAt) (s1 keep : Int) (h0 : Reads w w.heap.size 6 A l.length (ocells l)) (hg : ∀ y ∈ l, y.Good w) (hl : l.length ≤ 9223372036854775807) (hk0 : -9223372036854775808 ≤ keep) (hk1 : keep ≤ 9223372036854775807) :
    Calls Tryz.prog 3 #[.slice A l.length ca, .int .i64 s1, .int .i64 keep] w (CheckPost w (.bool true)) := by
  have HR := Lib.hid h0
  have HG := Lib.hid hg
  have H1 := Lib.hid (one_any w)
  clear h0 hg
  go_enter Tryz.func3, Tryz.ntmps3
  go_wp2_with fail
  refine H1.out.mono ?_
  rintro e w1 ⟨rfl, hb1⟩
  have HB1 := Lib.hid hb1
  clear hb1 H1
  go_wp2_with fail
  refine (new_doc w1).mono ?_
  rintro e w2 ⟨b1, S1, D1, rfl, hd, hb2⟩
  have HNP : Hid (NewPost w1 (.returned (.pointer (some ⟨b1, 0, none⟩))) w2) := ⟨b1, S1, D1, rfl, hd, hb2⟩
  clear hd hb2
  go_wp2_with fail
  refine (lnew_any w2).mono ?_
  intro e w3 hp
  obtain ⟨b1', b, he1, rfl, hsc⟩ := DLScene.make HB1.out HNP.out hp
  obtain rfl : b1 = b1' := by simpa using he1
  have HS0 := Lib.hid hsc
  obtain ⟨B, hB⟩ : ∃ B, B = w1.heap.size := ⟨_, rfl⟩
  rw [← hB] at HS0
  clear hp hsc HNP he1 hB
  go_upto_block 0 with (fail)
  go_cut [] (fun wx => ∃ st L, Hid (DLScene w B b1 st b L [] wx) ∧ Hid (KeptAt L st))
  case first =>
    go_wp2_with fail
    go_loopw [10] (fun i wr => K1 w B b1 b l i wr) (fun i _ => l.length - (intOf i).toNat)
    case atStart => exact ⟨0, _, _, Nat.zero_le _, by omega, rfl, HS0, Lib.hid KeptAt.new⟩
    case round =>
      obtain ⟨k, st, L, hk, hk6, rfl, HS, HK⟩ := hrel
      have k0 : (0 : Int) ≤ (k : Int) := by omega
      have k9 : (k : Int) ≤ 60 := by omega
      by_cases hkl : k < l.length
      · have k1 : (k : Int) < (l.length : Int) := by omega
        by_cases hk60 : k < 60
        · have k2 : (k : Int) < 60 := by omega
          obtain ⟨ad, rfl, hab, c0, c1, c2, c3, c4, c5⟩ := ((HR.out.below HS.out.below).more HS.out.below.size).op hkl
          have hgd := HG.out _ (List.getElem_mem hkl)
          obtain ⟨p1, p2, p3⟩ := HK.out.put l[k].op
          have HAP := Lib.hid (HS.out.apply l[k].op l[k].at_ l[k].cap (by have := hgd.2.1; unfold maxLen at this; omega) hgd.1)
          have HPU := Lib.hid (fun W (hs : DLScene w B b1 (st.apply l[k].op) b L [] W) => hs.put l[k].op l[k].at_ l[k].cap (by have := hgd.2.1; unfold maxLen at this; omega) hgd.1)
          rw [p2, p3] at HPU
          obtain ⟨ke, hke⟩ : ∃ ke, ke = st.applyE l[k].op := ⟨_, rfl⟩
          obtain ⟨kb, hkb⟩ : ∃ kb, kb = st.applyB l[k].op := ⟨_, rfl⟩
          obtain ⟨st2, hst2⟩ : ∃ st2, st2 = st.apply l[k].op := ⟨_, rfl⟩
          obtain ⟨L2, hL2⟩ : ∃ L2, L2 = L.put l[k].op := ⟨_, rfl⟩
          rw [← hke, ← hkb, ← hst2] at HAP
          rw [← hke, ← hkb, ← hst2, ← hL2] at HPU
          rw [← hst2, ← hL2] at p1
          have HK2 := Lib.hid p1
          have HCE : Hid (∀ W, Below w.heap.size w W → W.cell? (ad.add (k * 6)) = some (.int .i64 l[k].op.dot.who) ∧ W.cell? ⟨(ad.add (k * 6)).block, (ad.add (k * 6)).off + 1, none⟩ = some (.int .i64 l[k].op.dot.n) ∧ W.cell? ⟨(ad.add (k * 6)).block, (ad.add (k * 6)).off + 2, none⟩ = some (.int .i64 l[k].op.what) ∧
              W.cell? ⟨(ad.add (k * 6)).block, (ad.add (k * 6)).off + 3, none⟩ = some (.string l[k].op.place) ∧ W.cell? ⟨(ad.add (k * 6)).block, (ad.add (k * 6)).off + 4, none⟩ = some (.int .i64 l[k].op.letter) ∧ W.cell? ⟨(ad.add (k * 6)).block, (ad.add (k * 6)).off + 5, none⟩ = some (.slice l[k].at_ l[k].op.seen.length l[k].cap)) := fun W hW => by
            obtain ⟨ad', e', _, hh⟩ := ((HR.out.below hW).more hW.size).op hkl
            injection e' with e'
            subst e'
            exact hh
          clear hgd p1 p2 p3 hke hkb hst2 hL2 HK HS hab
          generalize l[k] = y at *
          obtain ⟨⟨⟨d1, d2⟩, o2, o3, o4, o5⟩, yA, yc⟩ := y
          unfold LOp.val at HAP HPU
          simp only at HAP HPU c0 c1 c2 c3 c4 c5 HCE
          go_wp2_with fail
          refine HAP.out.mono ?_
          rintro e w4 ⟨rfl, h4⟩
          have HS4 := Lib.hid h4
          clear h4 c0 c1 c2 c3 c4 c5 HAP
          obtain ⟨c0, c1, c2, c3, c4, c5⟩ := HCE.out w4 HS4.out.below
          go_wp2_with fail
          refine (HPU.out w4 HS4.out).mono ?_
          rintro e w5 ⟨rfl, h5⟩
          have HS5 := Lib.hid h5
          clear h5 c0 c1 c2 c3 c4 c5 HPU HS4 HCE
          go_upto_region 11 with (fail)
          generalize hev : errV ke = ev at *
          have HEV := Lib.hid hev
          clear hev
          go_cut [65] (fun v wx => v = .bool false ∧ Hid (DLScene w B b1 st2 b L2 [] wx))
          case first =>
            have hbb : (kb != kb) = false := by simp
            by_cases hz : ke = 0
            · obtain rfl : ev = .nilIface := by rw [← HEV.out, hz]; rfl
              clear hz HEV
              go_quiet (fail)
              go_wp2_with fail
              go_meet
              case rel => exact ⟨rfl, Lib.hid (HS5.out.step (below_drewN (Below.refl _ _) _))⟩
            · obtain rfl : ev = .iface 72 (.int .i64 ke) := by rw [← HEV.out, errV, if_neg hz]
              clear hz HEV
              go_quiet (fail)
              go_wp2_with fail
              go_meet
              case rel => exact ⟨rfl, Lib.hid (HS5.out.step (below_drewN (Below.refl _ _) _))⟩
          case rest =>
            obtain ⟨rfl, HS6⟩ := hcut
            clear HS5
            by_cases hq : (k : Int) = s1
            · have q1 : ((k : Int) == s1) = true := by simpa using hq
              obtain ⟨g1, g2⟩ := HK2.out.sync
              have HK3 := Lib.hid g1
              have HG2 := Lib.hid g2
              clear hq g1 g2
              go_wp2_with fail
              refine HS6.out.sync.mono ?_
              rintro e w6 ⟨rfl, h6⟩
              rw [HG2.out, show errV 0 = .nilIface from rfl]
              have HS7 := Lib.hid h6
              clear h6
              go_wp2_with fail
              go_roundw
              case rel => exact ⟨k + 1, st2, _, by omega, by omega, by go_num, HS7, HK3⟩
              case measure => simp [intOf]; omega
            · have q1 : ((k : Int) == s1) = false := by simpa using hq
              clear hq
              go_wp2_with fail
              go_roundw
              case rel => exact ⟨k + 1, st2, _, by omega, by omega, by go_num, HS6, HK2⟩
              case measure => simp [intOf]; omega
        · have k2 : ¬ (k : Int) < 60 := by omega
          clear hk60
          go_wp2_with fail
          go_meet
          case rel => exact ⟨st, L, HS, HK⟩
      · have k1 : ¬ (k : Int) < (l.length : Int) := by omega
        clear hkl
        go_wp2_with fail
        go_meet
        case rel => exact ⟨st, L, HS, HK⟩
  case rest =>
    obtain ⟨st, L, HS, HK⟩ := hcut
    clear HS0
    go_wp2_with fail
    refine (HS.out.crash keep hk0 hk1).mono ?_
    rintro e w4 ⟨rfl, h4⟩
    obtain ⟨j, hj, hja, hjs, hjg⟩ := HK.out.crash keep
    have HS4 := Lib.hid h4
    have HK4 := Lib.hid hj
    have HST := Lib.hid hjs
    have HGO := Lib.hid hjg
    rw [hja] at HK4
    obtain ⟨L2, hL2⟩ : ∃ L2, L2 = L.crash keep := ⟨_, rfl⟩
    rw [← hL2] at HS4 HK4
    have hok := h4.okD
    clear h4 hj hja hjs hjg hL2 HS HK
    obtain ⟨S1, D1, hd1, _, _⟩ := HS4.out.docTo
    have HOP := Lib.hid (ops_doc w4 B S1 b1 st D1 hd1 hok)
    have HOK := Lib.hid hok
    clear hd1 hok
    go_wp2_with fail
    refine HOP.out.mono ?_
    rintro e w5 ⟨V, c, zs, rfl, hz1, hz2, hb5⟩
    have HZ1 := Lib.hid hz1
    have hzl : zs.length = st.ops.length := by rw [← hz1, List.length_map]
    have HZL := Lib.hid hzl
    have HZ2 := Lib.hid hz2
    have HS5 := Lib.hid (HS4.out.step hb5)
    clear hz1 hz2 hzl hb5 HS4 HOP
    go_wp2_with fail
    refine HS5.out.doc.mono ?_
    rintro e w6 ⟨bd, SD, D, rfl, hw, hdoc, hokL⟩
    obtain rfl := hw.symm
    clear hw
    have HKN := Lib.hid (known_doc w5 B SD bd L2.doc D hdoc hokL)
    have HVE := Lib.hid hokL.known
    clear hdoc hokL
    go_wp2_with fail
    refine HKN.out.mono ?_
    rintro e w7 ⟨VK, cK, rfl, hO7, hb7⟩
    have HO7 := Lib.hid hO7
    have HZ7 := Lib.hid (ops_below HZ2.out hb7)
    have HS7 := Lib.hid (HS5.out.step hb7)
    have hvl := (vec_ok HVE.out).1
    have HFW : Hid (zs.length ≤ 400) := by show _ ≤ _; rw [HZL.out]; exact HOK.out.few
    have hpl : ∀ y ∈ zs, y.op.place.size ≤ 9223372036854775807 := fun y hy => by
      have := small_of HOK.out (fun o ho => ho) y.op (by rw [← HZ1.out]; exact List.mem_map.2 ⟨y, hy, rfl⟩)
      omega
    have hLA := lacks_any w7 V c zs VK cK L2.doc.known HZ7.out.row.reads (fun y hy => (HZ7.out.seen y hy).reads) hpl (by have := HFW.out; omega) HO7.out.reads (by omega)
    have hle : lackE (zs.map OpAt.op) L2.doc.known = 0 := by
      unfold lackE
      rw [if_neg (by rw [HVE.out]; simp), if_neg (by rw [List.length_map]; have := HFW.out; omega), HZ1.out]
      exact opsFault_zero (fun o ho => (HOK.out.ops o ho).1)
    have hlr : lacksR (zs.map OpAt.op) L2.doc.known = st.ops.drop j := by
      rw [HZ1.out, HK4.out.doc, lacks_drop HGO.out j]
    rw [hle, hlr, show giveO 0 (st.ops.drop j) = st.ops.drop j from rfl, HZL.out] at hLA
    have HLA := Lib.hid hLA
    clear hLA hle hlr hpl hvl hO7 hb7 HKN HS5 HZ2 HVE
    go_wp2_with fail
    refine HLA.out.mono ?_
    rintro e w8 ⟨V8, c8, zs8, rfl, hz8, ho8, hb8⟩
    rw [show errV 0 = .nilIface from rfl]
    have HZ8 := Lib.hid hz8
    have HS8 := Lib.hid (HS7.out.row hb8 (Nat.le_refl _) ho8 (by rw [hz8]; exact small_of HOK.out (fun o ho => List.mem_of_mem_drop ho)))
    have hz8l : zs8.length = st.ops.length - j := by rw [← List.length_drop, ← hz8, List.length_map]
    have HZ8L := Lib.hid hz8l
    have hz400 : zs8.length ≤ 400 := by have := HOK.out.few; omega
    clear hz8 ho8 hb8 HS7 HLA hz8l HO7 HZ7
    go_upto_block 2 with (fail)
    go_cut [] (fun wx => ∃ L, Hid (DLScene w B b1 st b L [(V8, zs8)] wx) ∧ Hid (KeptAt L st))
    case first =>
      go_wp2_with fail
      go_loopw [17] (fun i wr => K2 w B b1 b st j V8 zs8 i wr) (fun i _ => zs8.length - (intOf i).toNat)
      case atStart => exact ⟨0, L2, Nat.zero_le _, rfl, HS8, HK4⟩
      case round =>
        obtain ⟨k, L3, hk, rfl, HS, HK⟩ := hrel
        clear HS8 HK4
        have k0 : (0 : Int) ≤ (k : Int) := by omega
        by_cases hkl : k < zs8.length
        · have k1 : (k : Int) < (zs8.length : Int) := by omega
          have hjk : j + k < st.ops.length := by have := HZ8L.out; omega
          obtain ⟨q1, q2⟩ := goes_at HGO.out hjk
          have hop : zs8[k].op = st.ops[j + k] := by
            have h1 : (zs8.map OpAt.op)[k]? = some zs8[k].op := by rw [List.getElem?_map, List.getElem?_eq_getElem hkl]; rfl
            rw [HZ8.out, List.getElem?_drop, List.getElem?_eq_getElem hjk] at h1
            exact (Option.some.inj h1).symm
          rw [← hop] at q1 q2
          obtain ⟨p1, p2, p3⟩ := HK.out.put zs8[k].op
          obtain ⟨ad, rfl, c0, c1, c2, c3, c4, c5, hcall⟩ := HS.out.putRow (V := V8) (zs := zs8) (by simp) hkl
          rw [p2, q1, p3, LDoc.applyB_E q1, show errV 0 = .nilIface from rfl] at hcall
          rw [q2, show j + k + 1 = j + (k + 1) by omega] at p1
          have HC := Lib.hid hcall
          have HK2 := Lib.hid p1
          clear q1 q2 hop p1 p2 p3 hcall hjk HS HK
          generalize L3.put zs8[k].op = L4 at *
          generalize zs8[k] = y at *
          obtain ⟨⟨⟨d1, d2⟩, o2, o3, o4, o5⟩, yA, yc⟩ := y
          unfold LOp.val at HC
          simp only at HC c0 c1 c2 c3 c4 c5
          go_wp2_with fail
          refine HC.out.mono ?_
          rintro e w9 ⟨rfl, h9⟩
          have HS9 := Lib.hid h9
          clear h9 c0 c1 c2 c3 c4 c5 HC
          go_wp2_with fail
          go_roundw
          case rel => exact ⟨k + 1, L4, by omega, by go_num, HS9, HK2⟩
          case measure => simp [intOf]; omega
        · have k1 : ¬ (k : Int) < (zs8.length : Int) := by omega
          have HF : Hid (KeptAt L3 st) := by
            have h1 := HK.out
            rw [List.take_of_length_le (by have := HZ8L.out; omega), ← HST.out] at h1
            exact h1
          clear hkl HK
          go_wp2_with fail
          go_meet
          case rel => exact ⟨L3, HS, HF⟩
    case rest =>
      obtain ⟨L3, HS, HK⟩ := hcut
      clear HS8 HK4
      have hld : L3.doc = st := HK.out.doc
      have HLD := Lib.hid hld
      have hfb := HOK.out.book.few
      have hfm := HOK.out.marks.few
      have hfk : st.known.length ≤ 8 := by have := (vec_ok HOK.out.known).1; omega
      obtain ⟨S1, D1, hd1, _, _⟩ := HS.out.docTo
      have HBK := Lib.hid (book_doc _ B S1 b1 st D1 hd1 HOK.out)
      clear hd1 hld
      go_wp2_with fail
      refine HBK.out.mono ?_
      rintro e w10 ⟨V10, c10, rfl, hO10, hb10⟩
      have HO10 := Lib.hid hO10
      have HS10 := Lib.hid (HS.out.step hb10)
      clear hO10 hb10 HBK HS
      go_wp2_with fail
      refine HS10.out.doc.mono ?_
      rintro e w11 ⟨bd1, SD1, D11, rfl, hw, hdoc, hokL⟩
      obtain rfl := hw.symm
      rw [HLD.out] at hdoc hokL
      have HBK2 := Lib.hid (book_doc _ B SD1 bd1 st D11 hdoc hokL)
      clear hw hdoc hokL
      go_wp2_with fail
      refine HBK2.out.mono ?_
      rintro e w12 ⟨V12, c12, rfl, hO12, hb12⟩
      have HLS := Lib.hid (leafs_same w12 V10 V12 c10 c12 st.book (HO10.out.below hb12).reads hO12.reads (by omega))
      have HS12 := Lib.hid (HS10.out.step hb12)
      clear hO12 hb12 HBK2 HS10
      go_wp2_with fail
      refine HLS.out.mono ?_
      rintro e w13 ⟨rfl, hb13⟩
      have HS13 := Lib.hid (HS12.out.step hb13)
      clear hb13 HS12 HLS
      obtain ⟨S1, D1, hd1, _, _⟩ := HS13.out.docTo
      have HBK := Lib.hid (marks_doc _ B S1 b1 st D1 hd1 HOK.out)
      clear hd1
      go_wp2_with fail
      refine HBK.out.mono ?_
      rintro e w14 ⟨V14, c14, rfl, hO14, hb14⟩
      have HO14 := Lib.hid hO14
      have HS14 := Lib.hid (HS13.out.step hb14)
      clear hO14 hb14 HBK HS13
      go_wp2_with fail
      refine HS14.out.doc.mono ?_
      rintro e w15 ⟨bd2, SD2, D12, rfl, hw, hdoc, hokL⟩
      obtain rfl := hw.symm
      rw [HLD.out] at hdoc hokL
      have HBK2 := Lib.hid (marks_doc _ B SD2 bd2 st D12 hdoc hokL)
      clear hw hdoc hokL
      go_wp2_with fail
      refine HBK2.out.mono ?_
      rintro e w16 ⟨V16, c16, rfl, hO16, hb16⟩
      have HLS := Lib.hid (marks_same w16 V14 V16 c14 c16 st.marks (HO14.out.below hb16).reads hO16.reads (by omega))
      have HS16 := Lib.hid (HS14.out.step hb16)
      clear hO16 hb16 HBK2 HS14
      go_wp2_with fail
      refine HLS.out.mono ?_
      rintro e w17 ⟨rfl, hb17⟩
      have HS17 := Lib.hid (HS16.out.step hb17)
      clear hb17 HS16 HLS
      obtain ⟨S1, D1, hd1, _, _⟩ := HS17.out.docTo
      have HBK := Lib.hid (known_doc _ B S1 b1 st D1 hd1 HOK.out)
      clear hd1
      go_wp2_with fail
      refine HBK.out.mono ?_
      rintro e w18 ⟨V18, c18, rfl, hO18, hb18⟩
      have HO18 := Lib.hid hO18
      have HS18 := Lib.hid (HS17.out.step hb18)
      clear hO18 hb18 HBK HS17
      go_wp2_with fail
      refine HS18.out.doc.mono ?_
      rintro e w19 ⟨bd3, SD3, D13, rfl, hw, hdoc, hokL⟩
      obtain rfl := hw.symm
      rw [HLD.out] at hdoc hokL
      have HBK2 := Lib.hid (known_doc _ B SD3 bd3 st D13 hdoc hokL)
      clear hw hdoc hokL
      go_wp2_with fail
      refine HBK2.out.mono ?_
      rintro e w20 ⟨V20, c20, rfl, hO20, hb20⟩
      have HLS := Lib.hid (ints_same w20 V18 V20 c18 c20 st.known (HO18.out.below hb20).reads hO20.reads (by omega))
      have HS20 := Lib.hid (HS18.out.step hb20)
      clear hO20 hb20 HBK2 HS18
      go_wp2_with fail
      refine HLS.out.mono ?_
      rintro e w21 ⟨rfl, hb21⟩
      have HS21 := Lib.hid (HS20.out.step hb21)
      clear hb21 HS20 HLS
      go_wp2_with fail
      go_ret
      exact ⟨by simp, HS21.out.below⟩
end lawTopKept
end Go.Proofs.YtmpkgbkdndpnlaaGreat
/- From a walk to a given statement: one theorem that serves every law of the seat. Conditions: none of our own. -/
namespace Go.Proofs.YtmpkgbkdndpnlaaGreat
open Go.RowKit Go.WideShapes Go.ChangeShapes Go.ChangeAt
set_option linter.unusedVariables false

section
variable {H : Type} {enc : TypeId × Value → H} {P : Program}

theorem post_of_below {f : Func} {s : ChangeSpec} {apart fresh handsOn again : Bool} {W W' : World} {args : Array Value} {v : Value} {ds gs : List (DataW H)} {before pa pv : List MemPlace}
    (hW : DataW.Whole enc P f.params.toList s.vars apart W args.toList ds gs before)
    (hres : ∀ (b : Nat) (sp : Nat → Bool) (hd : Bool), DataW.TrodAll enc P W' b sp hd f.resultTypes.toList (v.resultList f.resultTypes.size) (s.fn H (ds ++ gs)).results [])
    (hargs : ∀ sp : Nat → Bool, (∀ p ∈ before, sp p.block = true) → DataW.TrodAll enc P W' 0 sp true f.params.toList args.toList (s.fn H (ds ++ gs)).args pa)
    (hvars : ∀ sp : Nat → Bool, (∀ p ∈ before, sp p.block = true) → DataW.TrodVars enc P W' sp s.vars (s.fn H (ds ++ gs)).vars pv)
    (hps : before = pa ++ pv) (hb : Below W.heap.size W W')
    (hok : ∀ (j : Nat) (t : TypeId) (r : Value), f.resultTypes[j]? = some t → (v.resultList f.resultTypes.size)[j]? = some r → Value.okWide P W' .any 0 t r) :
    s.post enc P f apart fresh handsOn again W args v W' := by
  have hlt : ∀ p ∈ before, p.block < W.heap.size := fun p hp => hW.lt p hp
  have hold : ∀ p ∈ before, (fun b => decide (b < W.heap.size)) p.block = true := fun p hp => by simpa using hlt p hp
  refine ⟨ds, gs, before, [], pa, pv, hW, hres _ _ _, hargs _ hold, hvars _ hold, World.keptBut_mono (fun p hp => ⟨hp, ?_⟩) (hb.frame (· ∈ before)), fun _ => ?_⟩
  · rw [hps, List.mem_append] at hp
    exact Or.inr hp
  · obtain ⟨_, _, _, _, _, hz, hn⟩ := hW
    refine ⟨hok, _, _, ([] ++ pa) ++ pv, ⟨[] ++ pa, pv, trodAll_append (hargs _ (fun _ _ => rfl)) (hres _ _ _), hvars _ (fun _ _ => rfl), rfl, ?_, ?_⟩, ?_⟩
    · intro b off hp
      have hin : MemPlace.cell b off ∈ before := by rw [hps]; simpa using hp
      rw [hb.frozen (hlt _ hin)]
      exact hz b off hin
    · intro ha
      have := hn ha
      rw [hps] at this
      simpa using this
    · intro p hp _
      rw [hps]
      simpa using hp

theorem trodAll_below (hl : laidOutB P = true) {W W' : World} (hb : Below W.heap.size W W') {sp : Nat → Bool} :
    ∀ (ts : List TypeId) (vs : List Value) (ds : List (DataW H)) (ps : List MemPlace), (∀ t ∈ ts, P.readableRec t = true ∧ t < P.types.size) → (∀ p ∈ ps, p.block < W.heap.size) → (∀ p ∈ ps, sp p.block = true) →
      DataW.TrodAll enc P W 0 (fun _ => true) true ts vs ds ps → DataW.TrodAll enc P W' 0 sp true ts vs ds ps := by
  intro ts
  induction ts with
  | nil => intro vs ds ps _ _ _ h; cases vs <;> cases ds <;> simp_all [DataW.TrodAll]
  | cons t ts ih =>
    intro vs ds ps ht hlt hs h
    cases vs with
    | nil => simp [DataW.TrodAll] at h
    | cons v vs =>
      cases ds with
      | nil => simp [DataW.TrodAll] at h
      | cons d ds =>
        obtain ⟨p, q, h1, h2, rfl⟩ := h
        exact ⟨p, q, WideElems.Trod_stays hl (ht t (by simp)).1 (ht t (by simp)).2 h1 (fun x hx => hb.same (hlt x (by simp [hx]))) (fun x hx => hs x (by simp [hx])),
          ih vs ds q (fun t' h' => ht t' (by simp [h'])) (fun x hx => hlt x (by simp [hx])) (fun x hx => hs x (by simp [hx])) h2, rfl⟩

/-- A law: it answered true, and nothing that was there has turned. -/
theorem law_post (hl : laidOutB P = true) {f : Func} {s : ChangeSpec} {apart fresh handsOn again : Bool} {tb : TypeId} {W W' : World} {args : Array Value} {ds gs : List (DataW H)} {before : List MemPlace}
    (hr : f.resultTypes = #[tb]) (htb : P.underlying tb = some .bool) (hp : ∀ t ∈ f.params.toList, P.readableRec t = true ∧ t < P.types.size) (hv : s.vars = [])
    (hfn : s.fn H ds = { results := [.lit (.bool true)], args := ds })
    (hW : DataW.Whole enc P f.params.toList s.vars apart W args.toList ds gs before) (hb : Below W.heap.size W W') :
    s.post enc P f apart fresh handsOn again W args (.bool true) W' := by
  have hW' := hW
  obtain ⟨p, q, hA, hV, hpq, hfz, hnd⟩ := hW
  have hlt : ∀ x ∈ before, x.block < W.heap.size := fun x hx => hW'.lt x hx
  rw [hv] at hV
  obtain ⟨hgs, hq⟩ := trodVars_none hV
  subst hgs; subst hq
  simp only [List.append_nil] at hpq
  subst hpq
  refine post_of_below (pa := before) (pv := []) hW' ?_ ?_ ?_ (by simp) hb ?_
  · intro b sp hd
    rw [List.append_nil, hfn, hr]
    exact trodAll_mk1 (shut_bool htb _)
  · intro sp hs
    rw [List.append_nil, hfn]
    exact trodAll_below hl hb _ _ _ _ hp hlt hs hA
  · intro sp hs
    rw [List.append_nil, hfn, hv]
    exact rfl
  · exact ok_one hr rfl (okWide_bool_mk htb _)
end

theorem Tryz.own : ownKnob Tryz.prog.godebug = none := by kernel_rfl
theorem Tryz.laidOut : laidOutB Tryz.prog = true := by kernel_rfl
end Go.Proofs.YtmpkgbkdndpnlaaGreat
/- leaftop.TopKept: the statement. Conditions: none of our own. -/
namespace Go.Proofs.YtmpkgbkdndpnlaaGreat
open Go.RowKit Go.WideShapes Go.ChangeShapes Go.ChangeAt
set_option linter.unusedVariables false
namespace lawTopKept
set_option maxRecDepth 100000 in
theorem lifted (os : Os) (started : os.Started) (H : Type) (enc : TypeId × Value → H) :
    ReturnsInHanded {} Tryz.checked os 3 .any (Rows.topKeptSpec.pre6 enc Tryz.prog Tryz.f3 Rows.topKeptRow.domain false) (Rows.topKeptSpec.post enc Tryz.prog Tryz.f3 false true false false) := by
  refine returnsInHanded_of_change (C := Tryz.checked) Tryz.own started (by kernel_rfl) Tryz.func3
    (ChangeSpec.witness6 (enc := enc) (C := Tryz.checked) false ⟨#[], #[.slice none 0 0, .int .i64 0, .int .i64 0], []⟩ 8 (by kernel_rfl) (by kernel_rfl) (by kernel_rfl) (by kernel_rfl)) ?_
  intro W base args ds gs before hval0 hW _ _
  have hval : ∀ (j : Nat) t v, Tryz.f3.params[j]? = some t → args[j]? = some v → Value.okWide Tryz.prog W .any base t v := hval0
  obtain ⟨p, q, hA0, _⟩ := id hW
  have hA : DataW.TrodAll enc Tryz.prog W 0 (fun _ => true) true Tryz.f3.params.toList args.toList ds p := hA0
  rw [Tryz.params3] at hA hval
  obtain ⟨v0, v1, v2, d0, d1, d2, p0, p1, p2, rfl, rfl, rfl, h0, h1, h2⟩ := trodAll_three hA
  obtain ⟨A0, c0, l0, rfl, r0, g0, lc0, cm0⟩ := arg_ops (hval 0 22 v0 rfl rfl) h0
  obtain ⟨a1, rfl, rfl, rfl, wa1⟩ := open_int Tryz.underlying3 (hval 1 3 v1 rfl rfl) h1
  obtain ⟨a2, rfl, rfl, rfl, wa2⟩ := open_int Tryz.underlying3 (hval 2 3 v2 rfl rfl) h2
  refine (walk W A0 c0 l0 a1 a2 r0 g0 (by unfold maxLen at cm0; omega) (i64_of_wf wa2).1 (i64_of_wf wa2).2).mono fun e W' ⟨he, hb⟩ => ⟨_, he, ?_⟩
  exact law_post Tryz.laidOut (tb := 4) (by kernel_rfl) Tryz.underlying4 (by rw [Tryz.params3]; simp only [List.mem_cons, List.not_mem_nil, or_false]; rintro t (rfl | rfl | rfl) <;> exact ⟨by kernel_rfl, of_decide_eq_true (by kernel_rfl)⟩) rfl rfl hW hb

theorem holds : Rows.TopKeptSaid :=
  OpenClaim.holds_of_wide 3 Tryz.f3 rfl rfl rfl rfl rfl rfl rfl ⟨rfl, rfl, rfl, rfl, rfl⟩ rfl rfl rfl rfl rfl (by kernel_rfl) Tryz.func3 (by kernel_rfl)
    (of_decide_eq_true (by kernel_rfl)) (by unfold Func.isWrapper; first | (rw [if_pos (by decide +kernel)]; kernel_rfl) | (rw [if_neg (by decide +kernel)]; exact ⟨rfl, rfl⟩))
    (fun os started H enc _ => lifted os started H enc)
#print axioms holds
end lawTopKept
end Go.Proofs.YtmpkgbkdndpnlaaGreat

/- 19 texts in one: each says ahead of itself what is proved, and its conditions. -/
import Derived.Below
import Derived.Carry
import Derived.Deep.CutBlock
import Derived.Deep.DeepCutAuto
import Derived.Deep.RegionHeld3
import Derived.ProofKit
import Derived.Test.YtngalkmmpjegkaaRows
import Derived.WalkKit
import Derived.Test.YtngalkmmpjegkaaApartLaw
import Derived.Test.YtngalkmmpjegkaaBackInv2
import Derived.Test.YtngalkmmpjegkaaBackUndo2
import Derived.Test.YtngalkmmpjegkaaBookAt
import Derived.Test.YtngalkmmpjegkaaCursorLaw
import Derived.Test.YtngalkmmpjegkaaDocApply
import Derived.Test.YtngalkmmpjegkaaDocGo
import Derived.Test.YtngalkmmpjegkaaDocHelp
import Derived.Test.YtngalkmmpjegkaaEditInsert
import Derived.Test.YtngalkmmpjegkaaEditLaw
import Derived.Test.YtngalkmmpjegkaaEditSpec
import Derived.Test.YtngalkmmpjegkaaMarkSeen
import Derived.Test.YtngalkmmpjegkaaOpen
import Derived.Test.YtngalkmmpjegkaaStrs
/- When what is typed goes, and what may be wrong with it: plain. Conditions: none. -/
namespace Go.Proofs.Ytngalkmmpjegkaa
open Go.RowKit
set_option linter.unusedVariables false
theorem typed_goes (who : Int) (right : ByteArray) (hw0 : 1 ≤ who) (hw1 : who ≤ 8) : ∀ (t : List UInt8) (left : ByteArray) (n : Int) (d : LDoc) (a b : List LLeaf), d.Ok → d.book = a ++ b → Gap a b left right → nOf d.known ⟨who, 0⟩ = n → 0 ≤ n → n + t.length ≤ 9999 → d.ops.length + t.length ≤ 400 → d.book.length + t.length ≤ 300 →
    t.any badC = false → TypedOk who right t left → d.doE (typedOps who right t left n) = 0
  | [], left, n, d, a, b => fun hk hb hg hn h0 h1 h2 h3 h4 ht => rfl
  | c :: t, left, n, d, a, b => fun hk hb hg hn h0 h1 h2 h3 h4 ht => by
    obtain ⟨t1, t2⟩ := ht
    have hgood := good_of t1
    rw [List.any_cons, Bool.or_eq_false_iff] at h4
    obtain ⟨h41, h42⟩ := h4
    have hlet : letterB (c.toNat : Int) = true := by unfold badC at h41; simpa using h41
    simp only [List.length_cons] at h1 h2 h3
    rw [typedOps]
    generalize hp : strOf (betweenRes left right who) = p at *
    have hn' : nOf d.known ⟨who, n + 1⟩ = n := (nOf_who _ rfl).trans hn
    have hdot : dotErr ⟨who, n + 1⟩ = 0 := by unfold dotErr; rw [if_pos]; simp only; omega
    have hop : opErr ⟨⟨who, n + 1⟩, 1, p, c.toNat, []⟩ = 0 := by
      unfold opErr
      rw [if_neg (by simp only; omega), if_neg (by simp), if_neg (by have := hgood.check; simp only; omega), if_neg (by rintro ⟨_, h⟩; simp only at h; rw [hlet] at h; cases h), if_neg (by simp), if_neg (by simp), if_neg (by simp)]
      rfl
    obtain ⟨g1, g2⟩ := hg.at_ hgood
    have hr : Rising (a ++ b) := by rw [← hb]; exact hk.book.rising
    have hno := gap_none hr g1 g2
    have hwr : writeErr d.book p c.toNat = 0 := write_zero hk.book hgood.check hlet (.inr (by omega)) (.inl (by rw [hb, no_old hno]))
    have hte : d.turnE ⟨⟨who, n + 1⟩, 1, p, c.toNat, []⟩ = 0 := by unfold LDoc.turnE; rw [if_pos rfl]; exact hwr
    have hh : hasRes d.known ⟨who, n + 1⟩ = false := by
      unfold hasRes
      rw [Bool.and_eq_false_iff]
      exact .inr (decide_eq_false (by rw [hn']; show ¬ (n + 1 ≤ n); omega))
    have ha : addErr d.known ⟨who, n + 1⟩ = 0 := by
      unfold addErr
      have hv := LDoc.vd_zero hk hop
      simp only at hv
      rw [if_neg (by omega), if_neg (by rw [hn']; simp only; omega), if_neg (by rw [hn']; simp only; omega)]
    obtain ⟨q1, q2, q3⟩ := LDoc.apply_good hk hop hh ha (by omega) hte
    have hturn : d.turn ⟨⟨who, n + 1⟩, 1, p, c.toNat, []⟩ = { d with book := a ++ ⟨p, c.toNat, false⟩ :: b } := by
      unfold LDoc.turn
      rw [if_pos rfl, if_pos hwr, write_upd, hb, no_old hno]
      rw [upd_gap hr g1 g2]
      rfl
    have hk2 := LDoc.apply_ok hk ⟨⟨who, n + 1⟩, 1, p, c.toNat, []⟩
    unfold LDoc.doE
    rw [if_neg (by omega)]
    rw [q3, hturn] at hk2 ⊢
    obtain ⟨a1, a2, a3⟩ := add_ok ha
    have hn2 : nOf (addRes d.known ⟨who, n + 1⟩) ⟨who, 0⟩ = n + 1 := by
      rw [nOf_who _ (show (⟨who, 0⟩ : LDot).who = (⟨who, n + 1⟩ : LDot).who from rfl), nOf_add a1 a2 a2, if_pos rfl]
    refine typed_goes who right hw0 hw1 t p (n + 1) _ (a ++ [⟨p, c.toNat, false⟩]) b hk2 (by simp) (hg.next hgood _ _) hn2 (by omega) (by omega) ?_ ?_ h42 t2
    · simp; omega
    · rw [hb] at h3; simp at h3 ⊢; omega
/-- Two between which one may be. -/
def Between (a b : ByteArray) : Prop := (a.size = 0 ∨ placeErr a = 0) ∧ (b.size = 0 ∨ placeErr b = 0) ∧ (a.size ≠ 0 → b.size ≠ 0 → lt a b = true)
theorem between_ready {a b : ByteArray} (h : Between a b) : readyErr a b = 0 := by
  obtain ⟨h1, h2, h3⟩ := h
  unfold readyErr
  rw [if_neg, if_neg, if_neg]
  · rintro ⟨x, y, z⟩
    have := h3 x y
    unfold lt at this
    rw [this] at z; cases z
  · rintro ⟨x, y⟩
    rcases h2 with h | h
    · exact x h
    · exact y h
  · rintro ⟨x, y⟩
    rcases h1 with h | h
    · exact x h
    · exact y h
theorem between_eight {a b : ByteArray} (h : Between a b) {who : Int} (hw0 : 1 ≤ who) (hw1 : who ≤ 8) : betweenErr a b who = 0 ∨ betweenErr a b who = 8 := by
  unfold betweenErr roomErr
  rw [if_neg (by omega), if_neg (by have := between_ready h; omega)]
  split
  · exact .inr rfl
  · exact .inl rfl
theorem typed_eight (right : ByteArray) : ∀ (t : List UInt8) (left : ByteArray) (m : LMk), 1 ≤ m.who → m.who ≤ 8 → Between left right → (LMk.typed right t left m).2 = 0 ∨ (LMk.typed right t left m).2 = 8
  | [], left, m => fun _ _ _ => .inl rfl
  | c :: t, left, m => fun h0 h1 hb => by
    unfold LMk.typed
    by_cases he : betweenErr left right m.who ≠ 0
    · rw [if_pos he]
      rcases between_eight hb h0 h1 with h | h
      · exact absurd h he
      · exact .inr h
    · rw [if_neg he]
      have hgood := good_of (show betweenErr left right m.who = 0 by omega)
      refine typed_eight right t _ _ h0 h1 ⟨.inr hgood.check, hb.2.1, fun _ hr => (good_lt hgood).2 hr⟩
theorem ins_between {l : List LLeaf} (hb : BookOk l) {off : Int} (h0 : 0 ≤ off) (h1 : off ≤ ((textOf l).size : Int)) : Between (leftOf l off) (rightOf l (idxOf l off)) := by
  obtain ⟨g1, g2, g3⟩ := ins_gap hb h0 h1
  have hl : (leftOf l off).size = 0 ∨ ∃ n, ∃ hn : n < l.length, leftOf l off = l[n].place ∧ idxOf l off = n + 1 := by
    by_cases hp : 0 < off
    · obtain ⟨o, rfl⟩ : ∃ o : Nat, off = (o : Int) + 1 := ⟨(off - 1).toNat, by omega⟩
      have hsz : (textOf l).size = (textL l).length := strOf_size _
      obtain ⟨n, hn, e1, e2, e3⟩ := nth_seen l 0 o (by omega)
      have en : (nthFrom 0 l ((o : Int) + 1 - 1)).toNat = n := by rw [show (o : Int) + 1 - 1 = o by omega, e1]; omega
      exact .inr ⟨n, hn, by unfold leftOf; rw [if_pos hp, en]; simp [List.getD, hn], by unfold idxOf; rw [if_pos hp, en]⟩
    · exact .inl (by unfold leftOf; rw [if_neg hp]; rfl)
  have hr : (rightOf l (idxOf l off)).size = 0 ∨ ∃ h : idxOf l off < l.length, rightOf l (idxOf l off) = l[idxOf l off].place := by
    by_cases hi : idxOf l off < l.length
    · exact .inr ⟨hi, by unfold rightOf; rw [if_pos hi]; simp [List.getD, hi]⟩
    · exact .inl (by unfold rightOf; rw [if_neg hi]; rfl)
  refine ⟨?_, ?_, fun x y => ?_⟩
  · rcases hl with h | ⟨n, hn, h, _⟩
    · exact .inl h
    · rw [h]; exact .inr (hb.leafs _ (List.getElem_mem hn)).place
  · rcases hr with h | ⟨hi, h⟩
    · exact .inl h
    · rw [h]; exact .inr (hb.leafs _ (List.getElem_mem hi)).place
  · rcases hl with h | ⟨n, hn, h, hin⟩
    · exact absurd h x
    · rcases hr with h' | ⟨hi, h'⟩
      · exact absurd h' y
      · rw [h, h']
        exact rising_lt hb.rising n _ hn hi (by omega)
namespace LDoc
/-- What may be wrong with an insert. -/
theorem insE_cases {d : LDoc} (hk : d.Ok) (who off : Int) (text : ByteArray) : whoE who ≠ 0 ∧ d.insE who off text = 1 ∨ whoE who = 0 ∧ insErr d.book off text ≠ 0 ∧ d.insE who off text = insErr d.book off text ∨
    whoE who = 0 ∧ insErr d.book off text = 0 ∧ (d.insE who off text = 0 ∨ d.insE who off text = 8) := by
  by_cases hw : whoE who = 0
  · by_cases hi : insErr d.book off text = 0
    · refine .inr (.inr ⟨hw, hi, ?_⟩)
      obtain ⟨i1, i2, i3, i4⟩ := insErr_zero hi
      obtain ⟨_, w0, w1⟩ := who_dot hw
      unfold insE LMk.ins
      rw [if_neg (by omega), if_neg (by omega)]
      exact typed_eight _ _ _ _ w0 w1 (ins_between hk.book i3 i4)
    · refine .inr (.inl ⟨hw, hi, ?_⟩)
      unfold insE LMk.ins
      rw [if_neg (by omega), if_pos hi]
  · exact .inl ⟨hw, if_pos hw⟩
/-- What is typed goes, where there is room. -/
theorem ins_goes {d : LDoc} (hk : d.Ok) {who off : Int} {text : ByteArray} (h : d.insE who off text = 0) (h1 : nOf d.known ⟨who, 0⟩ + text.size ≤ 9999) (h0 : 0 ≤ nOf d.known ⟨who, 0⟩) (h2 : d.ops.length + text.size ≤ 400) (h3 : d.book.length + text.size ≤ 300) : d.doE (d.insR who off text) = 0 := by
  obtain ⟨a1, a2, a3, a4⟩ := ins_ok h
  obtain ⟨i1, i2, i3, i4⟩ := insErr_zero a2
  obtain ⟨_, w0, w1⟩ := who_dot a1
  obtain ⟨g1, g2, g3⟩ := ins_gap hk.book i3 i4
  rw [a3]
  exact typed_goes who _ w0 w1 _ _ _ d _ _ hk (List.take_append_drop _ _).symm g3 rfl h0 (by rw [toList_len]; omega) (by rw [toList_len]; omega) (by rw [toList_len]; omega) i2 a4
end LDoc
end Go.Proofs.Ytngalkmmpjegkaa
/- A text typed at once, or letter by letter: plain. Conditions: none. -/
namespace Go.Proofs.Ytngalkmmpjegkaa
open Go.RowKit
set_option linter.unusedVariables false
namespace LDoc
/-- What stands in a document in which one author typed letter by letter. -/
structure Typing (who : Int) (t : List UInt8) (st : LDoc) : Prop where
  ok : st.Ok
  text : textL st.book = t
  n : nOf st.known ⟨who, 0⟩ = (t.length : Int)
  ops : st.ops.length = t.length
  book : st.book.length = t.length
theorem Typing.new {who : Int} (h : whoE who = 0) : Typing who [] LDoc.new := by
  refine ⟨new_ok, rfl, ?_, rfl, rfl⟩
  obtain ⟨h1, _⟩ := who_dot h
  have := Says.new.known _ h1
  rw [nOf_who _ (show (⟨who, 0⟩ : LDot).who = (⟨who, 1⟩ : LDot).who from rfl), this]
  rfl
theorem tx_list {l : List LLeaf} : (textOf l).toList = textL l := by
  rw [toList_data]; rfl
theorem tx_size (l : List LLeaf) : (textOf l).size = (textL l).length := strOf_size _
/-- One more insert, that has gone. -/
theorem Typing.step {who : Int} {t : List UInt8} {st : LDoc} (h : Typing who t st) {off : Int} {text : ByteArray} (hi : st.insE who off text = 0) (hf : t.length + text.size ≤ 300) :
    st.doE (st.insR who off text) = 0 ∧ 0 ≤ off ∧ off ≤ (t.length : Int) ∧ Typing who (t.take off.toNat ++ text.toList ++ t.drop off.toNat) (st.doR (st.insR who off text)) := by
  obtain ⟨a1, a2, a3, a4⟩ := ins_ok hi
  obtain ⟨i1, i2, i3, i4⟩ := insErr_zero a2
  rw [tx_size, h.text] at i4
  have hd := ins_goes h.ok hi (by rw [h.n]; omega) (by rw [h.n]; omega) (by rw [h.ops]; omega) (by rw [h.book]; omega)
  obtain ⟨a, b, e1, e2, e3, e4, e5, e6, e7, e8, e9⟩ := ins_does h.ok hi hd
  have hk2 := doR_ok (st.insR who off text) h.ok
  have hlen : (st.insR who off text).length = text.size := by rw [a3, typedOps_len, toList_len]
  have htab : textL a ++ textL b = t := by
    rw [← h.text, e1]
    unfold textL
    rw [List.filter_append, List.map_append]
  have hta : textL a = t.take off.toNat := by
    rw [← htab, List.take_left' (by omega)]
  have htb : textL b = t.drop off.toNat := by
    rw [← htab, List.drop_left' (by omega)]
  refine ⟨hd, i3, i4, hk2, ?_, ?_, ?_, ?_⟩
  · rw [e3]
    have : textL (a ++ (st.insR who off text).map leafOf ++ b) = textL a ++ textL ((st.insR who off text).map leafOf) ++ textL b := by
      unfold textL
      rw [List.filter_append, List.filter_append, List.map_append, List.map_append]
    rw [this, e4, hta, htb]
  · obtain ⟨g1, g2, g3⟩ := ins_gap h.ok.book i3 (by rw [tx_size, h.text]; exact i4)
    obtain ⟨w1, w2, w3⟩ := who_dot a1
    have h4 := a4
    rw [a3] at hd ⊢
    obtain ⟨r1, r2, r3, r4, r5⟩ := typed_do who _ text.toList _ _ st _ _ h.ok (List.take_append_drop _ _).symm g3 rfl h4 hd
    rw [r5, h.n]
    simp only [List.length_append, List.length_take, List.length_drop]
    omega
  · rw [e7, List.length_append, hlen, h.ops]
    simp only [List.length_append, List.length_take, List.length_drop, toList_len]
    omega
  · have := congrArg List.length e1
    rw [List.length_append] at this
    rw [e3]
    simp only [List.length_append, List.length_map, List.length_take, List.length_drop, toList_len, hlen]
    rw [h.book] at this
    omega
/-- Why an insert into a document is refused, where the offset is right. -/
theorem ins_why {st : LDoc} (hk : st.Ok) {who off : Int} {text : ByteArray} (hw : whoE who = 0) (hb : text.toList.any badC = false) (hs : text.size ≤ 200) (h0 : 0 ≤ off) (h1 : off ≤ ((textOf st.book).size : Int)) : st.insE who off text = 0 ∨ st.insE who off text = 8 := by
  rcases insE_cases hk who off text with ⟨c1, _⟩ | ⟨_, c2, _⟩ | ⟨_, _, c3⟩
  · exact absurd hw c1
  · refine absurd ?_ c2
    unfold insErr
    rw [if_neg (by omega), if_neg (by rw [hb]; decide), if_neg (by omega)]
  · exact c3
theorem ins_far {st : LDoc} (hk : st.Ok) {who off : Int} {text : ByteArray} (hw : whoE who = 0) (hb : text.toList.any badC = false) (hs : text.size ≤ 200) (h : off < 0 ∨ ((textOf st.book).size : Int) < off) : st.insE who off text = 1 := by
  have hi : insErr st.book off text = 1 := by
    unfold insErr
    rw [if_neg (by omega), if_neg (by rw [hb]; decide), if_pos h]
  rcases insE_cases hk who off text with ⟨c1, _⟩ | ⟨_, _, c2⟩ | ⟨_, c2, _⟩
  · exact absurd hw c1
  · rw [c2, hi]
  · omega
end LDoc
end Go.Proofs.Ytngalkmmpjegkaa
/- What is taken back, done: the undoer's ops make the undoer's book. Plain. Conditions: none. -/
namespace Go.Proofs.Ytngalkmmpjegkaa
open Go.RowKit
set_option linter.unusedVariables false
namespace LDoc
theorem doE_app : ∀ (l t : List LOp) (d : LDoc), d.doE (l ++ t) = if d.doE l ≠ 0 then d.doE l else (d.doR l).doE t
  | [], t, d => rfl
  | o :: l, t, d => by
    show (if d.applyE o ≠ 0 then d.applyE o else (d.apply o).doE (l ++ t)) = if (if d.applyE o ≠ 0 then d.applyE o else (d.apply o).doE l) ≠ 0 then (if d.applyE o ≠ 0 then d.applyE o else (d.apply o).doE l) else (if d.applyE o ≠ 0 then d else (d.apply o).doR l).doE t
    by_cases h : d.applyE o ≠ 0
    · simp only [if_pos h]
    · simp only [if_neg h]
      exact doE_app l t _
theorem doR_app : ∀ (l t : List LOp) (d : LDoc), d.doE l = 0 → d.doR (l ++ t) = (d.doR l).doR t
  | [], t, d => fun _ => rfl
  | o :: l, t, d => fun hd => by
    show (if d.applyE o ≠ 0 then d else (d.apply o).doR (l ++ t)) = (if d.applyE o ≠ 0 then d else (d.apply o).doR l).doR t
    unfold doE at hd
    by_cases h : d.applyE o ≠ 0
    · rw [if_pos h] at hd; exact absurd hd h
    · rw [if_neg h] at hd
      simp only [if_neg h]
      exact doR_app l t _ hd
/-- An op of one's own that is the next one goes. -/
theorem next_goes {d : LDoc} (hk : d.Ok) {o : LOp} {n : Int} (hop : opErr o = 0) (hn : nOf d.known o.dot = n) (hd : o.dot.n = n + 1) (hl : d.ops.length < 400) (ht : d.turnE o = 0) : d.applyE o = 0 := by
  have hh : hasRes d.known o.dot = false := by
    unfold hasRes
    rw [Bool.and_eq_false_iff]
    exact .inr (decide_eq_false (by omega))
  have ha : addErr d.known o.dot = 0 := by
    unfold addErr
    have hv := LDoc.vd_zero hk hop
    rw [if_neg (by omega), if_neg (by omega), if_neg (by omega)]
  exact (LDoc.apply_good hk hop hh ha (by omega) ht).1
/-- What the undoer has, and the document when its ops are done. -/
structure Track (d : LDoc) (U : LU) : Prop where
  ok : BookOk U.book
  who : whoE U.mak.who = 0
  n0 : 0 ≤ U.mak.n
  does : d.doE U.mak.ops = 0 → (d.doR U.mak.ops).book = U.book ∧ nOf (d.doR U.mak.ops).known ⟨U.mak.who, 0⟩ = U.mak.n ∧ (d.doR U.mak.ops).ops.length = d.ops.length + U.mak.ops.length
  goes : d.ops.length + U.mak.ops.length ≤ 400 → U.mak.n ≤ 9999 → d.doE U.mak.ops = 0
theorem Track.start {d : LDoc} (hk : d.Ok) {who : Int} (hw : whoE who = 0) : Track d ⟨d.book, d.maker who⟩ := by
  refine ⟨hk.book, hw, ?_, fun _ => ⟨rfl, rfl, rfl⟩, fun _ _ => rfl⟩
  obtain ⟨k, hk2, _, e1, e2, _⟩ := nOf_known hk.known hw
  show 0 ≤ nOf d.known ⟨who, 0⟩
  rw [← e1]; exact e2
theorem Track.add {d : LDoc} {U : LU} (hk : d.Ok) (h : Track d U) {o : LOp} {bk : List LLeaf} (hob : BookOk bk) (hop : U.mak.n ≤ 9998 → opErr (U.mak.put o) = 0)
    (hte : ∀ e : LDoc, e.book = U.book → e.turnE (U.mak.put o) = 0) (htb : ∀ e : LDoc, e.book = U.book → (e.turn (U.mak.put o)).book = bk) : Track d ⟨bk, U.mak.add o⟩ := by
  have hn0 := h.n0
  refine ⟨hob, h.who, ?_, fun hd => ?_, fun hl hn => ?_⟩
  · show 0 ≤ U.mak.n + 1; omega
  · replace hd : d.doE (U.mak.ops ++ [U.mak.put o]) = 0 := hd
    rw [doE_app] at hd
    by_cases h0 : d.doE U.mak.ops ≠ 0
    · rw [if_pos h0] at hd; exact absurd hd h0
    rw [if_neg h0] at hd
    obtain ⟨b1, b2, b3⟩ := h.does (by omega)
    have eok := doR_ok U.mak.ops hk
    have hz : d.doE U.mak.ops = 0 := by omega
    show (d.doR (U.mak.ops ++ [U.mak.put o])).book = bk ∧ nOf (d.doR (U.mak.ops ++ [U.mak.put o])).known ⟨U.mak.who, 0⟩ = U.mak.n + 1 ∧ (d.doR (U.mak.ops ++ [U.mak.put o])).ops.length = d.ops.length + (U.mak.ops ++ [U.mak.put o]).length
    rw [doR_app _ _ _ hz]
    generalize he : d.doR U.mak.ops = e at *
    unfold doE at hd
    by_cases h1 : e.applyE (U.mak.put o) ≠ 0
    · rw [if_pos h1] at hd; exact absurd hd h1
    have hn' : nOf e.known (U.mak.put o).dot = U.mak.n := (nOf_who _ rfl).trans b2
    obtain ⟨q1, q2, q3, q4, q5⟩ := LDoc.apply_new eok (o := U.mak.put o) (by omega) (by rw [hn']; show U.mak.n < U.mak.n + 1; omega)
    obtain ⟨a1, a2, a3⟩ := add_ok q3
    unfold doR doR
    rw [if_neg h1, q5]
    refine ⟨htb e b1, ?_, ?_⟩
    · show nOf (addRes e.known (U.mak.put o).dot) ⟨U.mak.who, 0⟩ = _
      rw [nOf_who _ (show (⟨U.mak.who, 0⟩ : LDot).who = (U.mak.put o).dot.who from rfl), nOf_add a1 a2 a2, if_pos rfl]
      rfl
    · simp; omega
  · replace hl : d.ops.length + (U.mak.ops ++ [U.mak.put o]).length ≤ 400 := hl
    replace hn : U.mak.n + 1 ≤ 9999 := hn
    simp only [List.length_append, List.length_cons, List.length_nil] at hl
    have hz := h.goes (by omega) (by omega)
    obtain ⟨b1, b2, b3⟩ := h.does hz
    have eok := doR_ok U.mak.ops hk
    show d.doE (U.mak.ops ++ [U.mak.put o]) = 0
    rw [doE_app, if_neg (by omega)]
    generalize he : d.doR U.mak.ops = e at *
    have hn' : nOf e.known (U.mak.put o).dot = U.mak.n := (nOf_who _ rfl).trans b2
    have hg := next_goes eok (o := U.mak.put o) (hop (by omega)) hn' rfl (by omega) (hte e b1)
    unfold doE
    rw [if_neg (by omega)]
    rfl
theorem dot_put {who n : Int} (hw : whoE who = 0) (h0 : 0 ≤ n) (h1 : n ≤ 9998) : dotErr ⟨who, n + 1⟩ = 0 := by
  obtain ⟨_, w1, w2⟩ := who_dot hw
  unfold dotErr; rw [if_pos]; simp only; omega
theorem Track.strike {d : LDoc} {U : LU} (hk : d.Ok) (h : Track d U) {p : ByteArray} (hp : hasAt U.book p = true) : Track d ⟨strikeRes U.book p, U.mak.st p⟩ := by
  have hpe := at_place h.ok hp
  have hse := strike_zero h.ok hpe (.inl hp)
  refine h.add hk (strike_book hse) (fun hn => ?_) (fun e he => ?_) (fun e he => ?_)
  · have hd := dot_put h.who h.n0 hn
    unfold LMk.put opErr
    rw [if_neg (by simp only; omega), if_neg (by simp), if_neg (by simp only; omega), if_neg (by simp), if_neg (by simp), if_neg (by simp), if_neg (by simp)]
    rfl
  · unfold turnE LMk.put
    rw [if_neg (by simp), if_pos rfl, he]
    exact hse
  · unfold turn LMk.put
    rw [if_neg (by simp), if_pos rfl, he, if_pos hse]
theorem Track.write {d : LDoc} {U : LU} (hk : d.Ok) (h : Track d U) {p : ByteArray} {c : Int} (hw : writeErr U.book p c = 0) : Track d ⟨writeRes U.book p c, U.mak.wr p c⟩ := by
  obtain ⟨_, hpe, hc, _⟩ := write_ok hw
  refine h.add hk (write_book hw) (fun hn => ?_) (fun e he => ?_) (fun e he => ?_)
  · have hd := dot_put h.who h.n0 hn
    unfold LMk.put opErr
    rw [if_neg (by simp only; omega), if_neg (by simp), if_neg (by simp only; omega), if_neg (by rintro ⟨_, h⟩; simp only at h; rw [hc] at h; cases h), if_neg (by simp), if_neg (by simp), if_neg (by simp)]
    rfl
  · unfold turnE LMk.put
    rw [if_pos rfl, he]
    exact hw
  · unfold turn LMk.put
    rw [if_pos rfl, he, if_pos hw]
theorem Track.new {d : LDoc} {U : LU} (hk : d.Ok) (h : Track d U) {p : ByteArray} (he : (unNew U p).2 = 0) : Track d (unNew U p).1 := by
  unfold unNew at he ⊢
  split at he
  · next hb => exact absurd he hb
  · next hb =>
    rw [if_neg hb]
    dsimp only at he ⊢
    rw [if_pos he]
    exact h.write hk he
theorem Track.one {d : LDoc} {U : LU} (hk : d.Ok) (h : Track d U) (d' : LDoc) (o : LOp) (he : (unOne d' U o).2.2 = 0) : Track d (unOne d' U o).1 := by
  unfold unOne at he ⊢
  split at he
  · next h0 => rw [if_pos h0]; exact h
  · next h0 =>
    rw [if_neg h0]
    have hp : hasAt U.book o.place = true := by
      cases e : hasAt U.book o.place with
      | true => rfl
      | false => exact absurd (.inl e) h0
    split at he
    · next h1 => rw [if_pos h1]; exact h.strike hk hp
    · next h1 =>
      rw [if_neg h1]
      split at he
      · next h2 => rw [if_pos h2]; exact h.new hk he
      · next h2 => rw [if_neg h2]; exact h
theorem Track.go {d : LDoc} (hk : d.Ok) (d' : LDoc) : ∀ (l : List LOp) (n : Int) (U : LU), Track d U → (unGo d' l n U).2 = 0 → Track d (unGo d' l n U).1
  | [], n, U => fun h _ => h
  | o :: t, n, U => fun h he => by
    unfold unGo at he ⊢
    split at he
    · next h0 => rw [if_pos h0]; exact h
    · next h0 =>
      rw [if_neg h0]
      split at he
      · next h1 => rw [if_pos h1]; exact Track.go hk d' t n U h he
      · next h1 =>
        rw [if_neg h1]
        split at he
        · next h2 => exact absurd he h2
        · next h2 =>
          rw [if_neg h2]
          exact Track.go hk d' t _ _ (h.one hk d' o (by omega)) he
/-- What is taken back, done: the book is the undoer's. -/
theorem und_does {d : LDoc} (hk : d.Ok) {who n : Int} (hw : whoE who = 0) (hn : ¬ (n < 0 ∨ 200 < n)) (he : d.undE who n = 0) :
    d.undR who n = (unGo d d.ops.reverse n ⟨d.book, d.maker who⟩).1.mak.ops ∧ Track d (unGo d d.ops.reverse n ⟨d.book, d.maker who⟩).1 := by
  refine ⟨by unfold undR; rw [if_pos he], ?_⟩
  unfold undE at he
  rw [if_neg (by omega), if_neg hn] at he
  exact Track.go hk d _ n _ (Track.start hk hw) he
end LDoc
theorem stAll_ops : ∀ (ps : List ByteArray) (m : LMk), (m.stAll ps).ops.length = m.ops.length + ps.length ∧ (m.stAll ps).n = m.n + ps.length
  | [], m => by simp [LMk.stAll]
  | p :: ps, m => by
    obtain ⟨h1, h2⟩ := stAll_ops ps (m.st p)
    show ((m.st p).stAll ps).ops.length = _ ∧ ((m.st p).stAll ps).n = _
    rw [h1, h2]
    simp [LMk.st, LMk.add]
    omega
theorem textL_gone (l : List LLeaf) (h : ∀ x ∈ l, x.struck = true) : textL l = [] := by
  unfold textL
  rw [List.filter_eq_nil_iff.2 (fun x hx => by unfold seenB; rw [h x hx]; simp)]
  rfl
theorem textL_two (a b : List LLeaf) : textL (a ++ b) = textL a ++ textL b := by
  unfold textL
  rw [List.filter_append, List.map_append]
theorem textL_three (a b c : List LLeaf) : textL (a ++ b ++ c) = textL a ++ textL b ++ textL c := by
  unfold textL
  rw [List.filter_append, List.filter_append, List.map_append, List.map_append]
/-- The last ones of what one has typed, taken back, when it is done. -/
theorem back_typed {d : LDoc} (hk : d.Ok) {a c : List LLeaf} {Y R : List LOp} (hb : d.book = a ++ Y.map leafOf ++ c) (ho : d.ops = R ++ Y) {who : Int} (hw : LDoc.whoE who = 0) (hY : ∀ o ∈ Y, o.dot.who = who ∧ o.what = 1 ∧ letterB o.letter = true)
    {k r : Nat} (hkl : k ≤ Y.length) (hr : r = 0 ∨ (k = Y.length ∧ R = [])) (hn : k + r ≤ 200) :
    d.undE who ((k + r : Nat) : Int) = 0 ∧ (d.undR who ((k + r : Nat) : Int)).length = k ∧
      (d.ops.length + k ≤ 400 → nOf d.known ⟨who, 0⟩ + k ≤ 9999 → d.doE (d.undR who ((k + r : Nat) : Int)) = 0) ∧
      (d.doE (d.undR who ((k + r : Nat) : Int)) = 0 → textL (d.doR (d.undR who ((k + r : Nat) : Int))).book = textL a ++ textL ((Y.take (Y.length - k)).map leafOf) ++ textL c) := by
  have hmw : (d.maker who).who = who := rfl
  have hri : Rising (a ++ Y.map leafOf ++ [] ++ c) := by rw [List.append_nil, ← hb]; exact hk.book.rising
  have hgo := LDoc.unGo_typed d a c k Y [] R.reverse r (d.maker who) hkl (fun o h => by rw [hmw]; exact hY o h) hri
  rw [List.append_nil, ← hb] at hgo
  have hrev : Y.reverse ++ R.reverse = d.ops.reverse := by rw [ho, List.reverse_append]
  rw [hrev] at hgo
  generalize hU : (⟨a ++ (Y.take (Y.length - k)).map leafOf ++ ((Y.drop (Y.length - k)).map (fun o => (leafOf o).gone) ++ []) ++ c, (d.maker who).stAll ((Y.drop (Y.length - k)).map LOp.place).reverse⟩ : LU) = U at hgo
  have hend : LDoc.unGo d ((Y.take (Y.length - k)).reverse ++ R.reverse) (r : Int) U = (U, 0) := by
    rcases hr with rfl | ⟨rfl, rfl⟩
    · cases (Y.take (Y.length - k)).reverse ++ R.reverse with
      | nil => rfl
      | cons o t => rw [LDoc.unGo, if_pos (by simp)]
    · simp [LDoc.unGo]
  rw [hend] at hgo
  have hnn : ¬ (((k + r : Nat) : Int) < 0 ∨ 200 < ((k + r : Nat) : Int)) := by omega
  have hE : d.undE who ((k + r : Nat) : Int) = 0 := by
    unfold LDoc.undE
    rw [if_neg (by omega), if_neg hnn, hgo]
  obtain ⟨hR, hT⟩ := LDoc.und_does hk hw hnn hE
  rw [hgo] at hR hT
  dsimp only at hR hT
  obtain ⟨s1, s2⟩ := stAll_ops ((Y.drop (Y.length - k)).map LOp.place).reverse (d.maker who)
  have hUm : U.mak = (d.maker who).stAll ((Y.drop (Y.length - k)).map LOp.place).reverse := by rw [← hU]
  rw [← hUm] at s1 s2
  have hlen : U.mak.ops.length = k := by
    rw [s1]
    show 0 + _ = k
    simp; omega
  have hnU : U.mak.n = nOf d.known ⟨who, 0⟩ + k := by
    rw [s2]
    show nOf d.known ⟨who, 0⟩ + _ = _
    simp; omega
  refine ⟨hE, by rw [hR, hlen], fun h1 h2 => ?_, fun h1 => ?_⟩
  · rw [hR]
    exact hT.goes (by omega) (by omega)
  · rw [hR] at h1 ⊢
    obtain ⟨b1, _, _⟩ := hT.does h1
    rw [b1, ← hU]
    dsimp only
    rw [List.append_nil, textL_three, textL_two, textL_gone ((Y.drop (Y.length - k)).map (fun o => (leafOf o).gone)) (fun x hx => by
      obtain ⟨o, _, rfl⟩ := List.mem_map.1 hx
      rfl)]
    simp
end Go.Proofs.Ytngalkmmpjegkaa
/- A letter that was struck, taken back: plain. Conditions: none. -/
namespace Go.Proofs.Ytngalkmmpjegkaa
open Go.RowKit
set_option linter.unusedVariables false
theorem strikes_cons (a b : Int) (x : LLeaf) (l : List LLeaf) (i : Int) (m : LMk) : LMk.strikes a b (x :: l) i m = if seenB x = true then LMk.strikes a b l (i + 1) (if a ≤ i ∧ i < b then m.st x.place else m) else LMk.strikes a b l i m := rfl
theorem strikes_app (a b : Int) : ∀ (A L : List LLeaf) (i : Int) (m : LMk), LMk.strikes a b (A ++ L) i m = LMk.strikes a b L (i + (textL A).length) (LMk.strikes a b A i m)
  | [], L, i, m => by simp [LMk.strikes, textL]
  | x :: A, L, i, m => by
    rw [List.cons_append, strikes_cons, strikes_cons, textL_cons]
    by_cases hs : seenB x = true
    · rw [if_pos hs, if_pos hs, if_pos hs, strikes_app a b A L]
      have e : i + 1 + ((textL A).length : Int) = i + (([u8 x.letter] ++ textL A).length : Int) := by simp; omega
      rw [e]
    · rw [if_neg hs, if_neg hs, if_neg hs, strikes_app a b A L]
      simp
theorem strikes_low {a b : Int} : ∀ (A : List LLeaf) (i : Int) (m : LMk), i + (textL A).length ≤ a → LMk.strikes a b A i m = m
  | [], i, m => fun _ => rfl
  | x :: A, i, m => fun h => by
    rw [textL_cons] at h
    rw [strikes_cons]
    by_cases hs : seenB x = true
    · rw [if_pos hs] at h ⊢
      simp only [List.length_append, List.length_cons, List.length_nil] at h
      rw [if_neg (by omega)]
      exact strikes_low A (i + 1) m (by omega)
    · rw [if_neg hs] at h ⊢
      exact strikes_low A i m (by simpa using h)
theorem strikes_high {a b : Int} : ∀ (A : List LLeaf) (i : Int) (m : LMk), b ≤ i → LMk.strikes a b A i m = m
  | [], i, m => fun _ => rfl
  | x :: A, i, m => fun h => by
    rw [strikes_cons]
    by_cases hs : seenB x = true
    · rw [if_pos hs, if_neg (by omega)]
      exact strikes_high A (i + 1) m (by omega)
    · rw [if_neg hs]
      exact strikes_high A i m h
theorem nth_mid {l : List LLeaf} {off : Int} (h0 : 0 ≤ off) (h1 : off < ((textL l).length : Int)) : ∃ A y B, l = A ++ y :: B ∧ seenB y = true ∧ ((textL A).length : Int) = off := by
  obtain ⟨o, rfl⟩ : ∃ o : Nat, off = (o : Int) := ⟨off.toNat, by omega⟩
  obtain ⟨n, hn, e1, e2, e3⟩ := nth_seen l 0 o (by omega)
  exact ⟨l.take n, l[n], l.drop (n + 1), by rw [List.getElem_cons_drop, List.take_append_drop], e2, by rw [e3]⟩
theorem mid_ahead {A B : List LLeaf} {y : LLeaf} (hr : Rising (A ++ y :: B)) : ahead (A ++ y :: B) y.place = A.length := by
  have := ahead_at hr (n := A.length) (by simp)
  simpa using this
theorem gap_behind {A B : List LLeaf} {y : LLeaf} (hb : BookOk (A ++ y :: B)) : Gap (A ++ [y]) B y.place (rightOf (A ++ y :: B) (A.length + 1)) := by
  refine ⟨fun x hx => ?_, fun x hx => ?_⟩
  · rcases List.mem_append.1 hx with h | h
    · obtain ⟨j, hj, rfl⟩ := List.getElem_of_mem h
      have := rising_lt hb.rising j A.length (by simp; omega) (by simp) hj
      simp [List.getElem_append_left hj] at this
      exact .inr this
    · simp at h; subst h; exact .inl rfl
  · obtain ⟨j, hj, rfl⟩ := List.getElem_of_mem hx
    have hil : A.length + 1 < (A ++ y :: B).length := by simp; omega
    have e : rightOf (A ++ y :: B) (A.length + 1) = (A ++ y :: B)[A.length + 1].place := by unfold rightOf; rw [if_pos hil]; simp only [List.getD, List.getElem?_eq_getElem hil, Option.getD_some]
    have e2 : ∀ i (hi : i < B.length), (A ++ y :: B)[A.length + 1 + i]'(by simp; omega) = B[i] := fun i hi => by
      rw [List.getElem_append_right (by omega)]
      have : A.length + 1 + i - A.length = i + 1 := by omega
      simp [this]
    rw [e]
    refine ⟨by have := (okPlace (hb.leafs _ (List.getElem_mem hil)).place).2.2.1; omega, ?_⟩
    rcases Nat.eq_zero_or_pos j with hj0 | hj0
    · subst hj0
      exact .inl (by rw [← e2 0 hj])
    · right
      rw [← e2 j hj]
      exact rising_lt hb.rising (A.length + 1) (A.length + 1 + j) hil (by simp; omega) (by omega)
theorem LLeaf.gone_letter (y : LLeaf) : y.gone.letter = y.letter := rfl
namespace LDoc
/-- What is struck, and taken back: the text is what it was. -/
theorem back_struck {d0 : LDoc} (hk : d0.Ok) (hs : Says d0.ops d0) {who off : Int} (h0 : 0 ≤ off) (h1 : off < ((textL d0.book).length : Int)) (he : d0.delE who off (off + 1) = 0)
    (hd : d0.doE (d0.delR who off (off + 1)) = 0) (hu : (d0.doR (d0.delR who off (off + 1))).undE who 1 = 0) :
    ((d0.doR (d0.delR who off (off + 1))).undR who 1).length = 1 ∧ ((d0.doR (d0.delR who off (off + 1))).doE ((d0.doR (d0.delR who off (off + 1))).undR who 1) = 0 →
      textL ((d0.doR (d0.delR who off (off + 1))).doR ((d0.doR (d0.delR who off (off + 1))).undR who 1)).book = textL d0.book) := by
  obtain ⟨A, y, B, hl, hy, hA⟩ := nth_mid h0 h1
  have hw : whoE who = 0 := by
    unfold delE at he
    by_cases h : whoE who = 0
    · exact h
    · rw [if_pos h] at he; omega
  have hts : (textOf d0.book).size = (textL d0.book).length := strOf_size _
  have hR : d0.delR who off (off + 1) = [(d0.maker who).put ⟨⟨0, 0⟩, 2, y.place, 0, []⟩] := by
    unfold delR
    rw [if_pos he]
    unfold LMk.del
    rw [if_neg (by omega)]
    dsimp only
    rw [hl, strikes_app, strikes_low A 0 _ (by omega)]
    rw [strikes_cons, if_pos hy, if_pos (by omega), strikes_high B _ _ (by omega)]
    rfl
  rw [hR] at hd hu ⊢
  generalize ho : (d0.maker who).put ⟨⟨0, 0⟩, 2, y.place, 0, []⟩ = o at *
  have o1 : o.dot.who = who := by rw [← ho]; rfl
  have o2 : o.what = 2 := by rw [← ho]; rfl
  have o3 : o.place = y.place := by rw [← ho]; rfl
  have o4 : o.dot.n = nOf d0.known ⟨who, 0⟩ + 1 := by rw [← ho]; rfl
  have hr : Rising (A ++ y :: B) := by rw [← hl]; exact hk.book.rising
  unfold doE at hd
  by_cases h1e : d0.applyE o ≠ 0
  · rw [if_pos h1e] at hd; exact absurd hd h1e
  obtain ⟨q1, q2, q3, q4, q5⟩ := LDoc.apply_new hk (o := o) (by omega) (by rw [nOf_who d0.known (show o.dot.who = (⟨who, 0⟩ : LDot).who from o1), o4]; omega)
  have hbook : (d0.doR [o]).book = A ++ y.gone :: B := by
    unfold doR doR
    rw [if_neg h1e, q5]
    show (d0.turn o).book = _
    unfold turnE at q4
    rw [if_neg (by omega), if_pos o2] at q4
    unfold turn
    rw [if_neg (by omega), if_pos o2, if_pos q4]
    show strikeRes d0.book o.place = _
    rw [o3, hl, strike_mid hr]
  have hops : (d0.doR [o]).ops = d0.ops ++ [o] := by
    unfold doR doR
    rw [if_neg h1e, q5]
  have hk2 := doR_ok [o] hk
  generalize hd2 : d0.doR [o] = d at *
  have hnn : ¬ ((1 : Int) < 0 ∨ 200 < (1 : Int)) := by omega
  obtain ⟨hR2, hT⟩ := und_does hk2 hw hnn hu
  have hlet : y.letter ≠ 0 := by unfold seenB at hy; simp at hy; exact hy.1
  have hstr : y.struck = false := by unfold seenB at hy; simp at hy; exact hy.2
  have hr2 : Rising (A ++ y.gone :: B) := gone_rising (c := B) hr
  obtain ⟨m1, m2⟩ := mid_at hr2
  have hz : strk d0.ops y.place = 0 := by
    unfold strk
    rw [List.length_eq_zero_iff, List.filter_eq_nil_iff]
    intro x hx hh
    simp at hh
    have := (hs.struck y.place).2 ⟨x, hx, hh.1, hh.2⟩
    rw [hl, (mid_at hr).2, hstr] at this
    cases this
  have hone1 : strk d.ops y.place = 1 := by
    rw [hops, strk_app, hz]
    simp [strk, o2, o3]
  have hone : d.unOne ⟨d.book, d.maker who⟩ o = ((unNew ⟨d.book, d.maker who⟩ y.place).1, true, (unNew ⟨d.book, d.maker who⟩ y.place).2) := by
    unfold unOne
    dsimp only
    rw [hbook, o3]
    have m1' : hasAt (A ++ y.gone :: B) y.place = true := m1
    have m2' : old (A ++ y.gone :: B) y.place = y.gone := m2
    rw [m1', m2', if_neg (by rintro (h | h); cases h; exact hlet h), if_neg (by omega), if_pos ⟨o2, rfl, by rw [hone1]; rfl⟩]
  have hgo : d.unGo d.ops.reverse 1 ⟨d.book, d.maker who⟩ = if (unNew ⟨d.book, d.maker who⟩ y.place).2 ≠ 0 then ((unNew ⟨d.book, d.maker who⟩ y.place).1, (unNew ⟨d.book, d.maker who⟩ y.place).2) else ((unNew ⟨d.book, d.maker who⟩ y.place).1, 0) := by
    have e1 : d.ops.reverse = o :: d0.ops.reverse := by rw [hops]; simp
    rw [e1, unGo, if_neg (by omega), if_neg (by show ¬ o.dot.who ≠ who; simp [o1]), hone]
    split
    · rfl
    · rw [if_pos rfl]
      cases d0.ops.reverse with
      | nil => rfl
      | cons x t => rw [unGo, if_pos (by omega)]
  have hu2 := hu
  unfold undE at hu2
  rw [if_neg (by omega), if_neg hnn, hgo] at hu2
  by_cases hne : (unNew ⟨d.book, d.maker who⟩ y.place).2 ≠ 0
  · rw [if_pos hne] at hu2; exact absurd hu2 hne
  rw [hgo, if_neg hne] at hR2 hT
  dsimp only at hR2 hT
  rw [hR2]
  unfold unNew at hne hT ⊢
  dsimp only at hne hT ⊢
  by_cases hbe : betweenErr y.place (rightOf d.book (ahead d.book y.place + 1)) (d.maker who).who ≠ 0
  · rw [if_pos hbe] at hne; exact absurd hbe hne
  rw [if_neg hbe] at hne hT ⊢
  dsimp only at hne hT ⊢
  refine ⟨rfl, fun hdo => ?_⟩
  obtain ⟨b1, _, _⟩ := hT.does hdo
  have hwe : writeErr d.book ((d.maker who).next y.place (rightOf d.book (ahead d.book y.place + 1))) (old d.book y.place).letter = 0 := by omega
  rw [b1]
  dsimp only
  rw [if_pos hwe]
  have hold : old d.book y.place = y.gone := by rw [hbook]; exact m2
  have hah : ahead d.book y.place = A.length := by rw [hbook]; exact mid_ahead hr2
  have hgood := good_of (show betweenErr y.place (rightOf d.book (ahead d.book y.place + 1)) (d.maker who).who = 0 by omega)
  have hgap := gap_behind (A := A) (B := B) (y := y.gone) (by rw [← hbook]; exact hk2.book)
  rw [hold]
  unfold LMk.next
  rw [hah, hbook] at hgood ⊢
  generalize strOf (betweenRes y.place (rightOf (A ++ y.gone :: B) (A.length + 1)) (d.maker who).who) = p at *
  obtain ⟨g1, g2⟩ := hgap.at_ (left := y.gone.place) (p := p) hgood
  have e3 : A ++ y.gone :: B = (A ++ [y.gone]) ++ B := by simp
  rw [e3] at hr2 ⊢
  have hno := gap_none hr2 g1 g2
  rw [write_upd, no_old hno]
  have ew : (⟨p, 0, false⟩ : LLeaf).write y.gone.letter = ⟨p, y.gone.letter, false⟩ := rfl
  rw [ew, upd_gap (x := ⟨p, y.gone.letter, false⟩) hr2 g1 g2, hl]
  have e4 : (A ++ [y.gone]) ++ (⟨p, y.gone.letter, false⟩ : LLeaf) :: B = A ++ ([y.gone] ++ [⟨p, y.gone.letter, false⟩]) ++ B := by simp
  have e5 : A ++ y :: B = A ++ [y] ++ B := by simp
  show textL ((A ++ [y.gone]) ++ (⟨p, y.gone.letter, false⟩ : LLeaf) :: B) = _
  rw [e4, e5, textL_three, textL_three]
  congr 2
  have s1 : seenB y.gone = false := by unfold seenB LLeaf.gone; simp
  have s2 : seenB ⟨p, y.gone.letter, false⟩ = true := by unfold seenB LLeaf.gone; simpa using hlet
  unfold textL
  simp [List.filter_cons, s1, s2, hy]
  rfl
end LDoc
end Go.Proofs.Ytngalkmmpjegkaa
/- A row of ops is applied to a document, whatever comes of it: the round of such a loop. Plain, and by the contract of Apply. Conditions: the ops can be read. -/
namespace Go.Proofs.Ytngalkmmpjegkaa
open Go.RowKit
set_option linter.unusedVariables false
/-- A document of the call's own to which at most n ops were applied. -/
def DocAt (w : World) (B b n : Nat) (wr : World) : Prop := ∃ st S D, DocIs wr B S b st D ∧ st.Ok ∧ Says st.ops st ∧ Numbered st.ops ∧ st.ops.length ≤ n ∧ Below w.heap.size w wr
def DocLoop (w : World) (B b : Nat) (i : Value) (wr : World) : Prop := ∃ k : Nat, k ≤ 60 ∧ i = .int .i64 k ∧ Hid (DocAt w B b k wr)
theorem DocAt.new {w w' : World} {B b : Nat} {S : List Nat} {D : DLay} (h : DocIs w' B S b LDoc.new D) (hb : Below w.heap.size w w') (n : Nat) : DocAt w B b n w' := ⟨_, S, D, h, LDoc.new_ok, Says.new, Numbered.nil, Nat.zero_le _, hb⟩
theorem DocAt.more {w wr : World} {B b n m : Nat} (h : DocAt w B b n wr) (hm : n ≤ m) : DocAt w B b m wr := by
  obtain ⟨st, S, D, h1, h2, h3, h4, h5, h6⟩ := h
  exact ⟨st, S, D, h1, h2, h3, h4, by omega, h6⟩
theorem DocAt.round {w wr : World} {B b n : Nat} (h : DocAt w B b n wr) (hB : w.heap.size ≤ B) {A : Option Addr} {ys : List OpAt} (hr : Reads w w.heap.size 6 A ys.length (ocells ys)) (hg : ∀ y ∈ ys, y.Good w) {k : Nat} (hk : k < ys.length) :
    ∃ ad who nn what p letter seen ya yc, A = some ad ∧ wr.cell? (ad.add (k * 6)) = some (.int .i64 who) ∧ wr.cell? ⟨(ad.add (k * 6)).block, (ad.add (k * 6)).off + 1, none⟩ = some (.int .i64 nn) ∧ wr.cell? ⟨(ad.add (k * 6)).block, (ad.add (k * 6)).off + 2, none⟩ = some (.int .i64 what) ∧
      wr.cell? ⟨(ad.add (k * 6)).block, (ad.add (k * 6)).off + 3, none⟩ = some (.string p) ∧ wr.cell? ⟨(ad.add (k * 6)).block, (ad.add (k * 6)).off + 4, none⟩ = some (.int .i64 letter) ∧ wr.cell? ⟨(ad.add (k * 6)).block, (ad.add (k * 6)).off + 5, none⟩ = some (.slice ya seen yc) ∧
      Calls Try.prog 9 #[.pointer (some ⟨b, 0, none⟩), .agg #[.int .i64 who, .int .i64 nn, .int .i64 what, .string p, .int .i64 letter, .slice ya seen yc]] wr (fun e w' => (∃ (is : Bool) (ke : Int), e = .returned (.tuple #[.bool is, errV ke])) ∧ DocAt w B b (n + 1) w') := by
  obtain ⟨st, S, D, hd, hok, hs, hn, hl, hbw⟩ := h
  obtain ⟨ad, rfl, hab, c0', c1', c2', c3', c4', c5'⟩ := ((hr.below hbw).more hbw.size).op hk
  have hgood := (hg _ (List.getElem_mem hk)).below hbw
  have hps := hgood.2.1
  have hfar : 0 < ys[k].op.seen.length → ∀ g ∈ ob ys[k].at_, g ∉ S := (hg _ (List.getElem_mem hk)).1.far (fun g hg => by have := (hd.own g hg).1; omega)
  have HA := apply_doc wr _ _ _ _ _ hd hok ys[k].op ys[k].at_ ys[k].cap (by unfold maxLen at hps; omega) hgood.1 hfar
  refine ⟨ad, _, _, _, _, _, _, _, _, rfl, c0', c1', c2', c3', c4', c5', HA.mono ?_⟩
  rintro e w' ⟨rfl, S', D', h1, h2, h3⟩
  refine ⟨⟨_, _, rfl⟩, _, S', D', h1, LDoc.apply_ok hok _, LDoc.apply_says hok hs _, LDoc.apply_numbered hok hs hn _, ?_, hbw.trans (h2.below hbw.size (fun g hg => by have := (hd.own g hg).1; omega))⟩
  rcases LDoc.apply_three (d := st) ys[k].op with ⟨_, _, q⟩ | ⟨_, _, q⟩ | ⟨_, _, q⟩
  · rw [q]; simp; omega
  · rw [q]; omega
  · rw [q]; omega
/-- What came of the ops is far from older rows: they read as before. -/
theorem DocAt.below {w wr : World} {B b n : Nat} (h : DocAt w B b n wr) : Below w.heap.size w wr := by
  obtain ⟨st, S, D, h1, h2, h3, h4, h5, h6⟩ := h
  exact h6
end Go.Proofs.Ytngalkmmpjegkaa
/- edit.Do, walked. Conditions: the document is right; the ops can be read, and lie apart from it. -/
namespace Go.Proofs.Ytngalkmmpjegkaa
open Go.RowKit
set_option linter.unusedVariables false
/-- An op's dots can be read, and lie apart from the blocks S. -/
def OpFar (w : World) (S : List Nat) (y : OpAt) : Prop := Reads w w.heap.size 2 y.at_ y.op.seen.length (dcells y.op.seen) ∧ y.op.place.size ≤ 9223372036854775807 ∧ (0 < y.op.seen.length → ∀ g ∈ ob y.at_, g ∉ S)
structure DoMid (w : World) (B : Nat) (S : List Nat) (b : Nat) (A : Option Addr) (ys : List OpAt) (st : LDoc) (k : Nat) (wr : World) (S' : List Nat) (D' : DLay) (sk : LDoc) : Prop where
  doc : DocIs wr B S' b sk D'
  only : Only S w wr
  sub : ∀ g ∈ S', g ∈ S ∨ w.heap.size ≤ g
  ok : sk.Ok
  restE : st.doE (ys.map OpAt.op) = sk.doE ((ys.drop k).map OpAt.op)
  restR : st.doR (ys.map OpAt.op) = sk.doR ((ys.drop k).map OpAt.op)
def DoLoop (w : World) (B : Nat) (S : List Nat) (b : Nat) (A : Option Addr) (ys : List OpAt) (st : LDoc) (i : Value) (wr : World) : Prop := ∃ k : Nat, ∃ S' D' sk, k ≤ ys.length ∧ i = .int .i64 k ∧ Hid (DoMid w B S b A ys st k wr S' D' sk)
theorem DocIs.lt {w : World} {B : Nat} {S : List Nat} {b : Nat} {st : LDoc} {D : DLay} (h : DocIs w B S b st D) : ∀ g ∈ S, B ≤ g ∧ g < w.heap.size := h.own
namespace DoMid
variable {w wr w' : World} {B b : Nat} {S S' : List Nat} {A : Option Addr} {ys : List OpAt} {st sk : LDoc} {k : Nat} {D' : DLay}
/-- The world in which the op's box has been laid. -/
theorem boxed (h : DoMid w B S b A ys st k wr S' D' sk) (o : Obj) : DocIs (wr.alloc o) B S' b sk D' := h.doc.below ((Below.refl _ _).alloc (Nat.le_refl _) o)
theorem next (h : DoMid w B S b A ys st k wr S' D' sk) (hk : k < ys.length) (o : Obj) (he : sk.applyE ys[k].op = 0) (ht : DocTo (wr.alloc o) B S' b (sk.apply ys[k].op) w') : ∃ S2 D2, DoMid w B S b A ys st (k + 1) w' S2 D2 (sk.apply ys[k].op) := by
  obtain ⟨S2, D2, h1, h2, h3⟩ := ht
  have hd := List.drop_eq_getElem_cons hk
  have hsz : wr.heap.size ≤ (wr.alloc o).heap.size := by simp
  have hs0 := h.only.size
  refine ⟨S2, D2, h1, (h.only.alloc o).trans_new h2 (fun i hi => h.sub i hi), fun g hg => ?_, LDoc.apply_ok h.ok _, ?_, ?_⟩
  · rcases h3 g hg with h4 | h4
    · exact h.sub g h4
    · exact .inr (by omega)
  · rw [h.restE, hd, List.map_cons, LDoc.doE, if_neg (by omega)]
  · rw [h.restR, hd, List.map_cons, LDoc.doR, if_neg (by omega)]
theorem stop (h : DoMid w B S b A ys st k wr S' D' sk) (hk : k < ys.length) (o : Obj) (he : sk.applyE ys[k].op ≠ 0) (ht : DocTo (wr.alloc o) B S' b sk w') : st.doE (ys.map OpAt.op) = sk.applyE ys[k].op ∧ DocTo w B S b (st.doR (ys.map OpAt.op)) w' := by
  have hd := List.drop_eq_getElem_cons hk
  have hsz : wr.heap.size ≤ (wr.alloc o).heap.size := by simp
  have hs0 := h.only.size
  refine ⟨by rw [h.restE, hd, List.map_cons, LDoc.doE, if_pos he], ?_⟩
  rw [h.restR, hd, List.map_cons, LDoc.doR, if_pos he]
  exact DocTo.back (h.only.alloc o) h.sub ht
theorem fin (h : DoMid w B S b A ys st k wr S' D' sk) (hk : ys.length ≤ k) : st.doE (ys.map OpAt.op) = 0 ∧ DocTo w B S b (st.doR (ys.map OpAt.op)) wr := by
  have hd : ys.drop k = [] := List.drop_eq_nil_of_le hk
  refine ⟨by rw [h.restE, hd]; rfl, ?_⟩
  rw [h.restR, hd]
  exact ⟨S', D', h.doc, h.only, h.sub⟩
end DoMid
def DoPost (w : World) (B : Nat) (S : List Nat) (b : Nat) (k : Int) (st : LDoc) (e : Ending) (w' : World) : Prop := e = .returned (errV k) ∧ DocTo w B S b st w'
set_option maxRecDepth 100000 in
set_option maxHeartbeats 8000000 in
theorem do_any (w : World) (B : Nat) (S : List Nat) (b : Nat) (st : LDoc) (D : DLay) (h : DocIs w B S b st D) (ok : st.Ok) (A : Option Addr) (c : Nat) (ys : List OpAt) (hr : Reads w w.heap.size 6 A ys.length (ocells ys)) (ha : 0 < ys.length → ∀ g ∈ ob A, g ∉ S)
    (hf : ∀ y ∈ ys, OpFar w S y) (hl : ys.length ≤ 9223372036854775807) :
    Calls Try.prog 6 #[.pointer (some ⟨b, 0, none⟩), .slice A ys.length c] w (DoPost w B S b (st.doE (ys.map OpAt.op)) (st.doR (ys.map OpAt.op))) := by
  have HR := Lib.hid hr
  have HA := Lib.hid ha
  have HF := Lib.hid hf
  have HM0 : Hid (DoMid w B S b A ys st 0 w S D st) := ⟨h, Only.refl _ _, fun g hg => .inl hg, ok, rfl, rfl⟩
  clear hr ha hf h ok
  go_enter Try.func6, Try.ntmps6
  go_wp2_with fail
  go_loopw [11] (fun i wr => DoLoop w B S b A ys st i wr) (fun i _ => ys.length - (intOf i).toNat)
  case atStart => exact ⟨0, _, _, _, Nat.zero_le _, rfl, HM0.out⟩
  case round =>
    obtain ⟨k, S', D', sk, hk, rfl, HM⟩ := hrel
    have k0 : (0 : Int) ≤ (k : Int) := by omega
    by_cases hlt : k < ys.length
    · have k1 : (k : Int) < (ys.length : Int) := by omega
      have hro := Reads.only HR.out HM.out.only HA.out
      obtain ⟨ad, rfl, hab, d0, d1, d2, d3, d4, d5⟩ := hro.op hlt
      obtain ⟨f1, f2, f3⟩ := HF.out _ (List.getElem_mem hlt)
      have f1' := Reads.only f1 HM.out.only f3
      have hfar : 0 < ys[k].op.seen.length → ∀ g ∈ ob ys[k].at_, g ∉ S' := fun hn g hg hm => by
        rcases HM.out.sub g hm with h4 | h4
        · exact f3 hn g hg h4
        · obtain ⟨ad', e, hb, _⟩ := f1.2 hn
          rw [e] at hg; simp [ob] at hg; omega
      have HAP : Hid (∀ o : Obj, Calls Try.prog 9 #[.pointer (some ⟨b, 0, none⟩), ys[k].op.val ys[k].at_ ys[k].cap] (wr.alloc o) (ApplyPost (wr.alloc o) B S' b (sk.applyB ys[k].op) (sk.applyE ys[k].op) (sk.apply ys[k].op))) := fun o =>
        apply_doc (wr.alloc o) B S' b sk D' (HM.out.boxed o) HM.out.ok ys[k].op ys[k].at_ ys[k].cap f2 ((f1'.alloc (Nat.le_refl _) o).more (by simp)) hfar
      have HNX : Hid (∀ (he : sk.applyE ys[k].op = 0) (o : Obj) (w' : World), DocTo (wr.alloc o) B S' b (sk.apply ys[k].op) w' → ∃ S2 D2, DoMid w B S b (some ad) ys st (k + 1) w' S2 D2 (sk.apply ys[k].op)) := fun he o w' ht => HM.out.next hlt o he ht
      have HST : Hid (∀ (he : sk.applyE ys[k].op ≠ 0) (o : Obj) (w' : World), DocTo (wr.alloc o) B S' b sk w' → st.doE (ys.map OpAt.op) = sk.applyE ys[k].op ∧ DocTo w B S b (st.doR (ys.map OpAt.op)) w') := fun he o w' ht => HM.out.stop hlt o he ht
      have HBAD := Lib.hid (fun he : sk.applyE ys[k].op ≠ 0 => LDoc.applyE_bad (d := sk) (o := ys[k].op) rfl he)
      clear f1 f1' f2 f3 hfar hro hab
      generalize ys[k] = y at *
      have HE0 : errV 0 = .nilIface := rfl
      by_cases he : sk.applyE y.op = 0
      · have HNY := Lib.hid (HNX.out he)
        rw [he] at HAP
        clear HST HBAD he HNX
        generalize sk.apply y.op = sk2 at *
        generalize sk.applyB y.op = bb at *
        obtain ⟨⟨⟨who, n⟩, what, p, letter, seen⟩, ya, yc⟩ := y
        unfold LOp.val at HAP
        simp only at d0 d1 d2 d3 d4 d5 HAP
        go_wp2_with fail
        refine (HAP.out _).mono ?_
        rintro e w2 ⟨rfl, ht⟩
        have HN2 := Lib.hid (HNY.out _ _ ht)
        rw [HE0]
        clear ht HNY HAP
        go_wp2_with fail
        go_roundw
        case rel =>
          obtain ⟨S2, D2, hfin⟩ := HN2.out
          exact ⟨k + 1, S2, D2, sk2, by omega, by go_num, hfin⟩
        case measure => simp [intOf]; omega
      · obtain ⟨_, hb, hs⟩ := HBAD.out he
        have HSU := Lib.hid (HST.out he)
        have HV := Lib.hid (errV_ne he)
        rw [hb, hs] at HAP
        clear HNX HBAD he hb hs HST
        generalize sk.applyE y.op = ke at *
        obtain ⟨⟨⟨who, n⟩, what, p, letter, seen⟩, ya, yc⟩ := y
        unfold LOp.val at HAP
        simp only at d0 d1 d2 d3 d4 d5 HAP
        go_wp2_with fail
        refine (HAP.out _).mono ?_
        rintro e w2 ⟨rfl, ht⟩
        have HN2 := Lib.hid (HSU.out _ _ ht)
        rw [HV.out]
        clear ht HSU HAP
        go_wp2_with fail
        go_ret
        obtain ⟨n1, n2⟩ := HN2.out
        exact ⟨by rw [n1, HV.out]; rfl, n2⟩
    · have k1 : ¬ (k : Int) < (ys.length : Int) := by omega
      obtain ⟨f1, f2⟩ := HM.out.fin (by omega)
      have F1 := Lib.hid f1
      have F2 := Lib.hid f2
      clear f1 f2
      go_wp2_with fail
      go_ret
      exact ⟨by rw [F1.out]; rfl, F2.out⟩
end Go.Proofs.Ytngalkmmpjegkaa
/- A closed fact that many laws begin with: what is typed into a new document; and ops that a call has laid lie apart from a document. Conditions: none. -/
namespace Go.Proofs.Ytngalkmmpjegkaa
open Go.RowKit
set_option linter.unusedVariables false
theorem sized_ok {l : List LLeaf} (h : BookOk l) : Sized l := fun x hx => by have := place_small (h.leafs x hx).place; omega
theorem ops_apart {w1 w2 : World} {B N b : Nat} {S : List Nat} {st : LDoc} {D : DLay} (h : DocIs w1 B S b st D) (hN : w1.heap.size ≤ N) {V : Option Addr} {c : Nat} {ys : List OpAt} (ho : OwnOps w2 N V c ys) (hp : ∀ o ∈ ys.map OpAt.op, o.place.size ≤ 12) :
    (0 < ys.length → ∀ g ∈ ob V, g ∉ S) ∧ ∀ y ∈ ys, OpFar w2 S y := by
  refine ⟨fun _ g hg hm => ?_, fun y hy => ⟨(ho.seen y hy).reads, ?_, fun _ g hg hm => ?_⟩⟩
  · have := (ho.row.lt g hg).1; have := (h.own g hm).2; omega
  · have := hp y.op (List.mem_map.2 ⟨y, hy, rfl⟩); omega
  · have := ((ho.seen y hy).lt g hg).1; have := (h.own g hm).2; omega
/-- edit.Do of ops that edit.Insert has made, on the same document. -/
theorem do_ins {w7 w8 : World} {B b : Nat} {S : List Nat} {st : LDoc} {D : DLay} (h : DocIs w7 B S b st D) (ok : st.Ok) {who off : Int} {text : ByteArray} {V : Option Addr} {c : Nat} {zs : List OpAt} (hz : zs.map OpAt.op = st.insR who off text) (ho : OwnOps w8 w7.heap.size V c zs) (hb : Below w7.heap.size w7 w8) :
    Calls Try.prog 6 #[.pointer (some ⟨b, 0, none⟩), .slice V zs.length c] w8 (fun e w' => e = .returned (errV (st.doE (st.insR who off text))) ∧ DocTo w8 B S b (st.doR (st.insR who off text)) w') := by
  obtain ⟨a1, a2⟩ := ops_apart h (Nat.le_refl _) ho (by rw [hz]; exact insR_small)
  have hl : zs.length ≤ 200 := by have := insR_len (d := st) (who := who) (off := off) (text := text); rw [← hz, List.length_map] at this; exact this
  have := do_any w8 B S b st D (h.below hb) ok V c zs ho.row.reads a1 a2 (by omega)
  rw [hz] at this
  exact this
def hiT : ByteArray := ⟨#[104, 105]⟩
def hiDoc : LDoc := LDoc.new.doR (LDoc.new.insR 1 0 hiT)
theorem hi_ins : LDoc.new.insE 1 0 hiT = 0 := by decide +kernel
theorem hi_do : LDoc.new.doE (LDoc.new.insR 1 0 hiT) = 0 := by decide +kernel
theorem hi_text : textOf hiDoc.book = hiT := by decide +kernel
theorem hi_ok : hiDoc.Ok := LDoc.doR_ok _ LDoc.new_ok
end Go.Proofs.Ytngalkmmpjegkaa
/- book.At, walked. Conditions: places that an int may count. -/
namespace Go.Proofs.Ytngalkmmpjegkaa
open Go.RowKit
set_option linter.unusedVariables false
end Go.Proofs.Ytngalkmmpjegkaa
/- edit.at, Split, Fuse, Delete, walked. Conditions: the document is right; the numbers are of 64 bits. -/
namespace Go.Proofs.Ytngalkmmpjegkaa
open Go.RowKit
set_option linter.unusedVariables false
theorem nth_lt : ∀ (l : List LLeaf) (k : Nat) (off : Int), 0 ≤ nthFrom k l off → ∃ n, ∃ hn : n < l.length, nthFrom k l off = ((k + n : Nat) : Int)
  | [], k, off => fun h => by simp [nthFrom] at h
  | x :: l, k, off => fun h => by
    have step : ∀ o : Int, 0 ≤ nthFrom (k + 1) l o → ∃ n, ∃ hn : n < (x :: l).length, nthFrom (k + 1) l o = ((k + n : Nat) : Int) := fun o ho => by
      obtain ⟨n, hn, e⟩ := nth_lt l _ _ ho
      exact ⟨n + 1, by simp; omega, by rw [e]; omega⟩
    unfold nthFrom at h ⊢
    by_cases h1 : seenB x = true
    · rw [if_pos h1] at h ⊢
      by_cases h2 : off = 0
      · rw [if_pos h2]; exact ⟨0, by simp, by simp⟩
      · rw [if_neg h2] at h ⊢; exact step _ h
    · rw [if_neg h1] at h ⊢; exact step _ h
section
variable (w : World) (B : Nat) (S : List Nat) (b : Nat) (st : LDoc) (D : DLay) (h : DocIs w B S b st D) (ok : st.Ok)
include h ok
end
end Go.Proofs.Ytngalkmmpjegkaa
/- edit.Fuse, Delete, walked. Conditions: the document is right; the numbers are of 64 bits. -/
namespace Go.Proofs.Ytngalkmmpjegkaa
open Go.RowKit
set_option linter.unusedVariables false
theorem newMk_good {w : World} {B b : Nat} {S : List Nat} {st : LDoc} {D : DLay} (h : DocIs w B S b st D) (ok : st.Ok) {who : Int} (hw : LDoc.whoE who = 0) (hw0 : -9223372036854775808 ≤ who) (hw1 : who ≤ 9223372036854775807) :
    (0 ≤ (st.maker who).n ∧ (st.maker who).n ≤ 9999) ∧ Calls Try.prog 11 #[.pointer (some ⟨b, 0, none⟩), .int .i64 who] w fun e w' => ∃ b, e = .returned (.tuple #[.pointer (some ⟨b, 0, none⟩), .nilIface]) ∧ MkIs w' w.heap.size b (st.maker who) none 0 [] ∧ Below w.heap.size w w' := by
  refine ⟨?_, (newMk_any w B S b st D h ok who hw0 hw1).mono fun e w' hh => ?_⟩
  · obtain ⟨k, hk, _, e, h1, h2⟩ := nOf_known ok.known hw
    exact ⟨by rw [e] at h1; exact h1, by rw [e] at h2; exact h2⟩
  · rcases hh with ⟨_, h1⟩ | ⟨h1, _⟩
    · exact h1
    · exact absurd hw h1
theorem newMk_bad {w : World} {B b : Nat} {S : List Nat} {st : LDoc} {D : DLay} (h : DocIs w B S b st D) (ok : st.Ok) {who : Int} (hw : ¬ LDoc.whoE who = 0) (hw0 : -9223372036854775808 ≤ who) (hw1 : who ≤ 9223372036854775807) :
    Calls Try.prog 11 #[.pointer (some ⟨b, 0, none⟩), .int .i64 who] w fun e w' => e = .returned (.tuple #[.pointer none, errV 1]) ∧ Below w.heap.size w w' :=
  (newMk_any w B S b st D h ok who hw0 hw1).mono fun e w' hh => by
    rcases hh with ⟨h1, _⟩ | ⟨_, h1⟩
    · exact absurd h1 hw
    · exact h1
theorem MkTo.edit {w0 w w' : World} {b : Nat} {m m' : LMk} {V : Option Addr} {c : Nat} {ys : List OpAt} (hb : Below w0.heap.size w0 w) (h : MkIs w w0.heap.size b m V c ys) (ht : MkTo w w0.heap.size b V m' w') :
    ∃ V' c' ys', w'.cell? ⟨b, 2, none⟩ = some (.slice V' ys'.length c') ∧ ys'.map OpAt.op = m'.ops ∧ OwnOps w' w0.heap.size V' c' ys' ∧ Below w0.heap.size w0 w' := by
  have hB := hb.trans (MkTo.below h ht (Nat.le_refl _) hb.size)
  obtain ⟨V', c', ys', hm, _, _⟩ := ht
  exact ⟨V', c', ys', by rw [hm.blk.cell]; rfl, hm.same, hm.ops, hB⟩
section
variable (w : World) (B : Nat) (S : List Nat) (b : Nat) (st : LDoc) (D : DLay) (h : DocIs w B S b st D) (ok : st.Ok)
include h ok
end
/-- Midway: k leafs are looked at. -/
structure DelMid (w : World) (B b : Nat) (V : Option Addr) (m : LMk) (x y : Int) (l : List LLeaf) (k : Nat) (wr : World) (a : Int) (mk : LMk) (V' : Option Addr) (c' : Nat) (ys' : List OpAt) : Prop where
  mkis : MkIs wr B b mk V' c' ys'
  only : Only (b :: ob V) w wr
  new : ∀ g ∈ ob V', g ∈ ob V ∨ w.heap.size ≤ g
  rest : LMk.strikes x y l 0 m = LMk.strikes x y (l.drop k) a mk
  at_ : 0 ≤ a ∧ a ≤ k
  n : m.n ≤ mk.n ∧ mk.n ≤ m.n + k
  len : ys'.length ≤ m.ops.length + k
def DelLoop (w : World) (B b : Nat) (V : Option Addr) (m : LMk) (x y : Int) (l : List LLeaf) (a i : Value) (wr : World) : Prop :=
  ∃ k : Nat, ∃ (n : Int), ∃ mk V' c' ys', k ≤ l.length ∧ a = .int .i64 n ∧ i = .int .i64 k ∧ Hid (DelMid w B b V m x y l k wr n mk V' c' ys')
namespace DelMid
variable {w wr w' : World} {B b : Nat} {V V' : Option Addr} {m mk : LMk} {x y a : Int} {l : List LLeaf} {k c' : Nat} {ys' : List OpAt}
theorem fin (h : DelMid w B b V m x y l k wr a mk V' c' ys') (hk : l.length ≤ k) : MkTo w B b V (LMk.strikes x y l 0 m) wr := by
  rw [h.rest, List.drop_eq_nil_of_le hk, LMk.strikes]
  exact ⟨V', c', ys', h.mkis, h.only, h.new⟩
theorem skip (h : DelMid w B b V m x y l k wr a mk V' c' ys') (hk : k < l.length) (hs : seenB l[k] = false) (hb : Below wr.heap.size wr w') : DelMid w B b V m x y l (k + 1) w' a mk V' c' ys' := by
  refine ⟨h.mkis.below hb, h.only.below_step hb, h.new, ?_, by have := h.at_; omega, by have := h.n; omega, by have := h.len; omega⟩
  rw [h.rest, List.drop_eq_getElem_cons hk, LMk.strikes, if_neg (by rw [hs]; decide)]
theorem pass (h : DelMid w B b V m x y l k wr a mk V' c' ys') (hk : k < l.length) (hs : seenB l[k] = true) (hn : ¬ (x ≤ a ∧ a < y)) (hb : Below wr.heap.size wr w') : DelMid w B b V m x y l (k + 1) w' (a + 1) mk V' c' ys' := by
  refine ⟨h.mkis.below hb, h.only.below_step hb, h.new, ?_, by have := h.at_; omega, by have := h.n; omega, by have := h.len; omega⟩
  rw [h.rest, List.drop_eq_getElem_cons hk, LMk.strikes, if_pos hs, if_neg hn]
theorem next (h : DelMid w B b V m x y l k wr a mk V' c' ys') (hk : k < l.length) (hs : seenB l[k] = true) (hn : x ≤ a ∧ a < y) {w1 : World} (hb : Below wr.heap.size wr w1) (ht : MkTo w1 B b V' (mk.st l[k].place) w') :
    ∃ V2 c2 ys2, DelMid w B b V m x y l (k + 1) w' (a + 1) (mk.st l[k].place) V2 c2 ys2 := by
  obtain ⟨V2, c2, ys2, i2, o2, n2⟩ := MkTo.trans (h.mkis.below hb) (h.only.below_step hb) h.new ht
  refine ⟨V2, c2, ys2, i2, o2, n2, ?_, by have := h.at_; omega, ?_, ?_⟩
  · rw [h.rest, List.drop_eq_getElem_cons hk, LMk.strikes, if_pos hs, if_pos hn]
  · have := h.n
    show m.n ≤ mk.n + 1 ∧ mk.n + 1 ≤ _
    omega
  · have e1 := i2.len
    have e2 := h.mkis.len
    have := h.len
    rw [e1]
    simp [LMk.st, LMk.add]
    omega
end DelMid
set_option maxRecDepth 100000 in
set_option maxHeartbeats 8000000 in
theorem mkDel_any (w : World) (B b : Nat) (m : LMk) (V : Option Addr) (c : Nat) (ys : List OpAt) (h : MkIs w B b m V c ys) (hB : B ≤ w.heap.size) (A : Option Addr) (cl : Nat) (l : List LLeaf) (hr : Reads w w.heap.size 3 A l.length (lcells l)) (hb : BookOk l) (hap : ∀ g ∈ ob A, g ≠ b ∧ g ∉ ob V)
    (x y : Int) (hx0 : -9223372036854775808 ≤ x) (hx1 : x ≤ 9223372036854775807) (hy0 : -9223372036854775808 ≤ y) (hy1 : y ≤ 9223372036854775807) (hn0 : 0 ≤ m.n) (hn : m.n ≤ 900000) (hl : m.ops.length ≤ 90000) :
    Calls Try.prog 24 #[.pointer (some ⟨b, 0, none⟩), .slice A l.length cl, .int .i64 x, .int .i64 y] w (MkPost w B b V (m.del l x y)) := by
  have HR := Lib.hid hr
  have HM := Lib.hid h
  have HB := Lib.hid hb
  have HAP := Lib.hid hap
  have hfew := hb.few
  have HE0 : errV 0 = .nilIface := rfl
  have HE1 := errV_ne (show (1 : Int) ≠ 0 by decide)
  have HTX := Lib.hid (textOf_any w A cl l hr (fit_ok hb) (by omega))
  have HDEL : Hid (m.del l x y = if x < 0 ∨ y < x ∨ ((textOf l).size : Int) < y then (m, 1) else (LMk.strikes x y l 0 m, 0)) := rfl
  have hts : (textOf l).size ≤ 300 := by have := textL_le l; rw [show (textOf l).size = (textL l).length from strOf_size _]; omega
  clear h hr hb hap
  generalize textOf l = tx at *
  by_cases c1 : x < 0
  · have HF : Hid (m.del l x y = (m, 1)) := by show _ = _; rw [HDEL.out, if_pos (.inl c1)]
    go_enter Try.func24, Try.ntmps24
    go_wp2_with fail
    go_ret
    rw [HF.out]
    exact ⟨by rw [HE1]; rfl, HM.out.to_self⟩
  · by_cases c2 : y < x
    · have HF : Hid (m.del l x y = (m, 1)) := by show _ = _; rw [HDEL.out, if_pos (.inr (.inl c2))]
      go_enter Try.func24, Try.ntmps24
      go_wp2_with fail
      go_ret
      rw [HF.out]
      exact ⟨by rw [HE1]; rfl, HM.out.to_self⟩
    · by_cases c3 : (tx.size : Int) < y
      · have HF : Hid (m.del l x y = (m, 1)) := by show _ = _; rw [HDEL.out, if_pos (.inr (.inr c3))]
        have g3 : decide (y > (tx.size : Int)) = true := decide_eq_true c3
        go_enter Try.func24, Try.ntmps24
        go_wp2_with fail
        refine HTX.out.mono ?_
        rintro e w1 ⟨rfl, hb⟩
        have HM1 := Lib.hid (HM.out.below hb)
        have HO1 := Lib.hid (Only.of_below (S := b :: ob V) hb)
        clear hb
        go_wp2_with fail
        go_ret
        rw [HF.out]
        exact ⟨by rw [HE1]; rfl, V, c, ys, HM1.out, HO1.out, fun g hg => .inl hg⟩
      · have HF : Hid (m.del l x y = (LMk.strikes x y l 0 m, 0)) := by show _ = _; rw [HDEL.out, if_neg (by omega)]
        have g3 : ¬ (tx.size : Int) < y := c3
        have hml := HM.out.len
        go_enter Try.func24, Try.ntmps24
        go_wp2_with fail
        refine HTX.out.mono ?_
        rintro e w1 ⟨rfl, hb⟩
        have HM0 : Hid (DelMid w B b V m x y l 0 w1 0 m V c ys) := ⟨HM.out.below hb, Only.of_below hb, fun g hg => .inl hg, rfl, by omega, by omega, by omega⟩
        clear hb
        go_wp2_with fail
        go_loopw [9, 29] (fun a i wr => DelLoop w B b V m x y l a i wr) (fun _ i _ => l.length - (intOf i).toNat)
        case atStart => exact ⟨0, 0, m, V, c, ys, Nat.zero_le _, rfl, rfl, HM0.out⟩
        case round =>
          obtain ⟨k, n, mk, V', c', ys', hk, rfl, rfl, HK⟩ := hrel
          have k0 : (0 : Int) ≤ (k : Int) := by omega
          have hkat := HK.out.at_
          have hkn := HK.out.n
          have hkl := HK.out.len
          by_cases hlt : k < l.length
          · have k1 : (k : Int) < (l.length : Int) := by omega
            have hrr : Reads wr wr.heap.size 3 A l.length (lcells l) := Reads.only HR.out HK.out.only (fun _ g hg hm => by
              have := HAP.out g hg
              rcases List.mem_cons.1 hm with h | h
              · exact this.1 h
              · exact this.2 h)
            obtain ⟨ad, rfl, _, d0, d1, d2⟩ := hrr.leaf hlt
            have HSN := Lib.hid (fun W => seen_any W l[k])
            have HSK := Lib.hid (fun hs w' hb => HK.out.skip (w' := w') hlt hs hb)
            have HPS := Lib.hid (fun hs hn w' hb => HK.out.pass (w' := w') hlt hs hn hb)
            have HNX := Lib.hid (fun hs hn w1 w' hb ht => HK.out.next (w1 := w1) (w' := w') hlt hs hn hb ht)
            have HAD := Lib.hid (fun W (hW : Below wr.heap.size wr W) o hs => mkAdd_any W B b mk V' c' ys' (HK.out.mkis.below hW) (by have := HK.out.only.size; have := hW.size; omega) o none 0 hs (by omega) (by omega) (by omega))
            clear hrr
            generalize l[k] = z at *
            obtain ⟨p, ch, sk⟩ := z
            obtain ⟨WX, hWX⟩ : ∃ WX, WX = wr.alloc (.cells #[.string p, .int .i64 ch, .bool sk] 78) := ⟨_, rfl⟩
            have hbX : Below wr.heap.size wr WX := by rw [hWX]; exact (Below.refl _ _).alloc (Nat.le_refl _) _
            have hbk : Blk WX wr.heap.size 78 #[.string p, .int .i64 ch, .bool sk] := by rw [hWX]; exact Blk.new wr _ _
            have HBX := Lib.hid hbX
            have HBK := Lib.hid hbk
            have e0 : WX.cell? ⟨wr.heap.size, 0, none⟩ = some (.string p) := hbk.cell 0
            have e1 : WX.cell? ⟨wr.heap.size, 1, none⟩ = some (.int .i64 ch) := hbk.cell 1
            have e2 : WX.cell? ⟨wr.heap.size, 2, none⟩ = some (.bool sk) := hbk.cell 2
            have HS1 := Lib.hid (HSN.out WX)
            have q1 : IntKind.i64.wrap (n + 1) = n + 1 := IntWalk.i64_in _ (by omega)
            clear hbX hbk HSN
            simp only at d0 d1 d2
            cases hsn : seenB ⟨p, ch, sk⟩ with
            | false =>
              rw [hsn] at HS1
              have HSK := Lib.hid (HSK.out hsn)
              clear hsn HPS HNX HAD
              go_wp2_with fail
              rw [← hWX]
              clear hWX
              refine HS1.out.mono ?_
              rintro e w2 ⟨rfl, hb2⟩
              have HN := Lib.hid (HSK.out w2 (HBX.out.trans (hb2.mono HBX.out.size)))
              clear hb2
              go_wp2_with fail
              go_roundw
              case rel => exact ⟨k + 1, n, mk, V', c', ys', by omega, rfl, by go_num, HN.out⟩
              case measure => simp [intOf]; omega
            | true =>
              rw [hsn] at HS1
              by_cases hin : x ≤ n ∧ n < y
              · have i1 : x ≤ n := hin.1
                have i2 : n < y := hin.2
                have i3 : decide (n ≥ x) = true := decide_eq_true i1
                have HNX := Lib.hid (HNX.out hsn hin)
                clear hsn HPS HSK hin
                go_wp2_with fail
                rw [← hWX]
                clear hWX
                refine HS1.out.mono ?_
                rintro e w2 ⟨rfl, hb2⟩
                have HB2 := Lib.hid (HBX.out.trans (hb2.mono HBX.out.size))
                have f0 : w2.cell? ⟨wr.heap.size, 0, none⟩ = some (.string p) := (HBK.out.below hb2 HBK.out.lt).cell 0
                have HAW := Lib.hid (HAD.out w2 HB2.out ⟨⟨0, 0⟩, 2, p, 0, []⟩ (Own.nil _ _ _ _))
                have HNY := Lib.hid (HNX.out w2)
                clear hb2 HNX HAD e0 e1 e2
                unfold LOp.val at HAW
                go_wp2_with fail
                refine HAW.out.mono ?_
                rintro e w3 ⟨rfl, ht⟩
                have HF := Lib.hid (HNY.out w3 HB2.out ht)
                clear ht
                go_wp2_with fail
                go_roundw
                case rel =>
                  obtain ⟨V2, c2, ys2, hfin⟩ := HF.out
                  exact ⟨k + 1, n + 1, _, V2, c2, ys2, by omega, by first | rfl | rw [q1], by go_num, hfin⟩
                case measure => simp [intOf]; omega
              · have HPS := Lib.hid (HPS.out hsn hin)
                by_cases i1 : x ≤ n
                · have i2 : ¬ n < y := fun h => hin ⟨i1, h⟩
                  have i3 : decide (n ≥ x) = true := decide_eq_true i1
                  clear hsn HNX HSK hin HAD
                  go_wp2_with fail
                  rw [← hWX]
                  clear hWX
                  refine HS1.out.mono ?_
                  rintro e w2 ⟨rfl, hb2⟩
                  have HN := Lib.hid (HPS.out w2 (HBX.out.trans (hb2.mono HBX.out.size)))
                  clear hb2
                  go_wp2_with fail
                  go_roundw
                  case rel => exact ⟨k + 1, n + 1, mk, V', c', ys', by omega, by first | rfl | rw [q1], by go_num, HN.out⟩
                  case measure => simp [intOf]; omega
                · have i3 : decide (n ≥ x) = false := decide_eq_false i1
                  clear hsn HNX HSK hin HAD
                  go_wp2_with fail
                  rw [← hWX]
                  clear hWX
                  refine HS1.out.mono ?_
                  rintro e w2 ⟨rfl, hb2⟩
                  have HN := Lib.hid (HPS.out w2 (HBX.out.trans (hb2.mono HBX.out.size)))
                  clear hb2
                  go_wp2_with fail
                  go_roundw
                  case rel => exact ⟨k + 1, n + 1, mk, V', c', ys', by omega, by first | rfl | rw [q1], by go_num, HN.out⟩
                  case measure => simp [intOf]; omega
          · have k1 : ¬ (k : Int) < (l.length : Int) := by omega
            have HF2 := Lib.hid (HK.out.fin (by omega))
            go_wp2_with fail
            go_ret
            rw [HF.out]
            exact ⟨rfl, HF2.out⟩
end Go.Proofs.Ytngalkmmpjegkaa
/- edit.Delete, walked. Conditions: the document is right; the numbers are of 64 bits. -/
namespace Go.Proofs.Ytngalkmmpjegkaa
open Go.RowKit
set_option linter.unusedVariables false
set_option maxRecDepth 100000 in
set_option maxHeartbeats 4000000 in
theorem delete_any (w : World) (B : Nat) (S : List Nat) (b : Nat) (st : LDoc) (D : DLay) (h : DocIs w B S b st D) (ok : st.Ok) (who x y : Int) (hw0 : -9223372036854775808 ≤ who) (hw1 : who ≤ 9223372036854775807) (hx0 : -9223372036854775808 ≤ x) (hx1 : x ≤ 9223372036854775807) (hy0 : -9223372036854775808 ≤ y) (hy1 : y ≤ 9223372036854775807) :
    Calls Try.prog 10 #[.pointer (some ⟨b, 0, none⟩), .int .i64 who, .int .i64 x, .int .i64 y] w (EditPost w (st.delE who x y) (st.delR who x y)) := by
  have HN := Lib.hid (newMk_any w B S b st D h ok who hw0 hw1)
  have HD := Lib.hid h
  have HOK := Lib.hid ok
  have HE0 : errV 0 = .nilIface := rfl
  have HE1 := errV_ne (show (1 : Int) ≠ 0 by decide)
  clear h ok
  by_cases hw : LDoc.whoE who = 0
  · have HN : Hid (Calls Try.prog 11 #[.pointer (some ⟨b, 0, none⟩), .int .i64 who] w fun e w' => ∃ b, e = .returned (.tuple #[.pointer (some ⟨b, 0, none⟩), .nilIface]) ∧ MkIs w' w.heap.size b (st.maker who) none 0 [] ∧ Below w.heap.size w w') :=
      HN.out.mono fun e w' hh => by
        rcases hh with ⟨_, h1⟩ | ⟨h1, _⟩
        · exact h1
        · exact absurd hw h1
    have HIE : Hid (st.delE who x y = ((st.maker who).del st.book x y).2) := by show _ = _; unfold LDoc.delE; rw [if_neg (by omega)]
    have HIR : Hid (st.delR who x y = if ((st.maker who).del st.book x y).2 = 0 then ((st.maker who).del st.book x y).1.ops else []) := by show _ = _; unfold LDoc.delR; rw [HIE.out]
    have hmn : 0 ≤ (st.maker who).n ∧ (st.maker who).n ≤ 9999 := by
      obtain ⟨k, hk, _, e, h1, h2⟩ := nOf_known HOK.out.known hw
      exact ⟨by rw [e] at h1; exact h1, by rw [e] at h2; exact h2⟩
    have hmo : (st.maker who).ops.length = 0 := rfl
    clear hw
    generalize hr : (st.maker who).del st.book x y = r at *
    obtain ⟨m', k⟩ := r
    simp only at HIE HIR
    have HRR := Lib.hid hr
    clear hr
    have hmn0 := hmn.1
    have hmn1 := hmn.2
    clear hmn
    generalize st.maker who = m at *
    rw [HIE.out, HIR.out]
    clear HIE HIR
    generalize hres : (if k = 0 then m'.ops else []) = res
    have HRES := Lib.hid hres
    clear hres
    go_enter Try.func10, Try.ntmps10
    go_wp2_with fail
    refine HN.out.mono ?_
    rintro e w1 ⟨bm, rfl, hm, hb⟩
    have HM := Lib.hid hm
    have HB1 := Lib.hid hb
    have HBK := Lib.hid (book_doc w1 _ _ _ _ _ (HD.out.below hb) HOK.out)
    clear hm hb HN
    go_wp2_with fail
    refine HBK.out.mono ?_
    rintro e w2 ⟨V, c, rfl, hO, hb⟩
    have HB2 := Lib.hid (HB1.out.trans (hb.mono HB1.out.size))
    have HM2 := Lib.hid (HM.out.below hb)
    have hs2 := HB2.out.size
    have HI : Hid (Calls Try.prog 24 #[.pointer (some ⟨bm, 0, none⟩), .slice V st.book.length c, .int .i64 x, .int .i64 y] w2 fun e w' => e = .returned (errV k) ∧ MkTo w2 w.heap.size bm none m' w') := by
      have := mkDel_any w2 w.heap.size bm m none 0 [] HM2.out hs2 V c st.book hO.reads HOK.out.book (fun g hg => ⟨fun e => by
        have h1 := (hO.lt g hg).1
        have h2 := HM.out.blk.lt
        omega, by simp [ob]⟩) x y hx0 hx1 hy0 hy1 hmn0 (by omega) (by omega)
      rw [HRR.out] at this
      exact this
    obtain ⟨ev, hev⟩ : ∃ ev, ev = errV k := ⟨_, rfl⟩
    rw [← hev] at HI
    have HEV := Lib.hid hev
    clear hO hb HBK HM hev
    go_wp2_with fail
    refine HI.out.mono ?_
    rintro e w3 ⟨rfl, ht3⟩
    have HB3 := Lib.hid (HB2.out.trans (MkTo.below HM2.out ht3 (Nat.le_refl _) hs2))
    obtain ⟨V', c', ys', hm3, _, _⟩ := ht3
    have HM3 := Lib.hid hm3
    have HDN := Lib.hid (mkDone_any w3 _ _ _ _ _ _ hm3 k)
    rw [← HEV.out] at HDN
    clear hm3 HI
    go_wp2_with fail
    refine HDN.out.mono ?_
    rintro e w4 ⟨rfl, rfl⟩
    have HF : Hid (∃ V2 c2 ys2, (if k = 0 then Value.slice V' ys'.length c' else .slice none 0 0) = .slice V2 ys2.length c2 ∧ ys2.map OpAt.op = (if k = 0 then m'.ops else []) ∧ OwnOps w4 w.heap.size V2 c2 ys2) := by
      by_cases hk : k = 0
      · rw [if_pos hk, if_pos hk]; exact ⟨_, _, _, rfl, HM3.out.same, HM3.out.ops⟩
      · rw [if_neg hk, if_neg hk]; exact ⟨none, 0, [], rfl, rfl, ⟨Own.nil _ _ _ _, by simp⟩⟩
    obtain ⟨V2, c2, ys2, f1, f2, f3⟩ := HF.out
    rw [f1]
    have F2 := Lib.hid f2
    have F3 := Lib.hid f3
    clear HF f1 f2 f3 HDN
    go_wp2_with fail
    go_ret2
    exact ⟨V2, c2, ys2, by rw [← HEV.out]; rfl, by rw [← HRES.out]; exact F2.out, F3.out, HB3.out⟩
  · have HN : Hid (Calls Try.prog 11 #[.pointer (some ⟨b, 0, none⟩), .int .i64 who] w fun e w' => e = .returned (.tuple #[.pointer none, errV 1]) ∧ Below w.heap.size w w') :=
      HN.out.mono fun e w' hh => by
        rcases hh with ⟨h1, _⟩ | ⟨_, h1⟩
        · exact absurd h1 hw
        · exact h1
    have HIE : Hid (st.delE who x y = 1) := if_pos hw
    have HIR : Hid (st.delR who x y = []) := by show _ = _; unfold LDoc.delR; rw [HIE.out, if_neg (by decide)]
    rw [HIE.out, HIR.out]
    rw [HE1] at HN
    clear hw HIE HIR
    go_enter Try.func10, Try.ntmps10
    go_wp2_with fail
    refine HN.out.mono ?_
    rintro e w1 ⟨rfl, hb⟩
    have HB1 := Lib.hid hb
    clear hb
    go_wp2_with fail
    go_ret2
    have := edit_bad (k := 1) HB1.out
    rw [HE1] at this
    exact this
end Go.Proofs.Ytngalkmmpjegkaa
/- back.Undo, in one sentence; and its ops done. Conditions: the document is right. -/
namespace Go.Proofs.Ytngalkmmpjegkaa
open Go.RowKit
set_option linter.unusedVariables false
namespace LDoc
/-- The undoer's places are short, and its ops are not many. -/
structure Few (n : Nat) (U : LU) : Prop where
  ok : BookOk U.book
  small : ∀ o ∈ U.mak.ops, o.place.size ≤ 12
  len : U.mak.ops.length ≤ n
theorem Few.more {n m : Nat} {U : LU} (h : Few n U) (hm : n ≤ m) : Few m U := ⟨h.ok, h.small, Nat.le_trans h.len hm⟩
theorem Few.put {n : Nat} {U : LU} (h : Few n U) {bk : List LLeaf} (hb : BookOk bk) (o : LOp) (ho : o.place.size ≤ 12) : Few (n + 1) ⟨bk, U.mak.add o⟩ := by
  refine ⟨hb, fun x hx => ?_, ?_⟩
  · rcases List.mem_append.1 (show x ∈ U.mak.ops ++ [U.mak.put o] from hx) with h1 | h1
    · exact h.small x h1
    · simp at h1; subst h1; exact ho
  · show (U.mak.ops ++ [U.mak.put o]).length ≤ _
    have := h.len
    simp; omega
theorem Few.new {n : Nat} {U : LU} (h : Few n U) (p : ByteArray) : Few (n + 1) (unNew U p).1 := by
  have hs := unNew_step (U := U) h.ok p
  unfold unNew at hs ⊢
  split
  · exact h.more (by omega)
  · next hb =>
    rw [if_neg hb] at hs
    exact h.put hs.book _ (place_small (good_of (show betweenErr p (rightOf U.book (ahead U.book p + 1)) U.mak.who = 0 by omega)).check)
theorem Few.one {n : Nat} {U : LU} (h : Few n U) (d : LDoc) (o : LOp) : Few (n + 1) (unOne d U o).1 := by
  unfold unOne
  split
  · exact h.more (by omega)
  · next h0 =>
    have hp : hasAt U.book o.place = true := by
      cases e : hasAt U.book o.place with
      | true => rfl
      | false => exact absurd (.inl e) h0
    split
    · exact h.put (strike_book (strike_zero h.ok (at_place h.ok hp) (.inl hp))) _ (place_small (at_place h.ok hp))
    · split
      · exact h.new _
      · exact h.more (by omega)
theorem Few.go (d : LDoc) : ∀ (l : List LOp) (n : Int) (U : LU) (k : Nat), Few k U → Few (k + l.length) (unGo d l n U).1
  | [], n, U, k => fun h => h
  | o :: t, n, U, k => fun h => by
    unfold unGo
    split
    · exact h.more (by omega)
    · split
      · exact (Few.go d t n U k h).more (by simp)
      · split
        · exact (h.one d o).more (by simp)
        · exact (Few.go d t _ _ (k + 1) (h.one d o)).more (by simp; omega)
theorem undR_few {d : LDoc} (hk : d.Ok) (who n : Int) : (∀ o ∈ d.undR who n, o.place.size ≤ 12) ∧ (d.undR who n).length ≤ 400 := by
  unfold undR
  split
  · have := Few.go d d.ops.reverse n ⟨d.book, d.maker who⟩ 0 ⟨hk.book, by simp [maker], by simp [maker]⟩
    refine ⟨this.small, ?_⟩
    have h1 := this.len
    have h2 := hk.few
    simp at h1
    omega
  · simp
end LDoc
/-- Ops of the call's own are done. -/
theorem do_row {w7 w8 : World} {B b : Nat} {S : List Nat} {st : LDoc} {D : DLay} (h : DocIs w7 B S b st D) (ok : st.Ok) {l : List LOp} (hsm : ∀ o ∈ l, o.place.size ≤ 12) (hlen : l.length ≤ 1000000) {V : Option Addr} {c : Nat} {zs : List OpAt} (hz : zs.map OpAt.op = l) (ho : OwnOps w8 w7.heap.size V c zs) (hb : Below w7.heap.size w7 w8) :
    Calls Try.prog 6 #[.pointer (some ⟨b, 0, none⟩), .slice V zs.length c] w8 (fun e w' => e = .returned (errV (st.doE l)) ∧ DocTo w8 B S b (st.doR l) w') := by
  obtain ⟨a1, a2⟩ := ops_apart h (Nat.le_refl _) ho (by rw [hz]; exact hsm)
  have hl : zs.length ≤ 1000000 := by rw [← hz, List.length_map] at hlen; exact hlen
  have := do_any w8 B S b st D (h.below hb) ok V c zs ho.row.reads a1 a2 (by omega)
  rw [hz] at this
  exact this
theorem undo_any (w : World) (B : Nat) (S : List Nat) (b : Nat) (st : LDoc) (D : DLay) (h : DocIs w B S b st D) (ok : st.Ok) (who n : Int) (hw0 : -9223372036854775808 ≤ who) (hw1 : who ≤ 9223372036854775807) :
    Calls Try.prog 7 #[.pointer (some ⟨b, 0, none⟩), .int .i64 who, .int .i64 n] w (EditPost w (st.undE who n) (st.undR who n)) := by
  by_cases hw : LDoc.whoE who = 0
  · by_cases hn : n < 0 ∨ 200 < n
    · exact undo_far w B S b st D h ok who n hw0 hw1 hw hn
    · exact undo_good w B S b st D h ok who n hw0 hw1 hw hn
  · exact undo_bad w B S b st D h ok who n hw0 hw1 hw
/-- The document's text, midway in a law: what is below, and the document. -/
structure OneDoc (w : World) (b : Nat) (st : LDoc) (wr : World) : Prop where
  doc : ∃ B S D, w.heap.size ≤ B ∧ DocIs wr B S b st D
  ok : st.Ok
  below : Below w.heap.size w wr
namespace OneDoc
variable {w wr w' : World} {b : Nat} {st : LDoc}
theorem step (h : OneDoc w b st wr) (hb : Below wr.heap.size wr w') : OneDoc w b st w' := by
  obtain ⟨B, S, D, h1, h2⟩ := h.doc
  exact ⟨⟨B, S, D, h1, h2.below hb⟩, h.ok, h.below.trans (hb.mono h.below.size)⟩
theorem drewN (h : OneDoc w b st wr) (n : Nat) : OneDoc w b st (wr.drewN n) := h.step (below_drewN (Below.refl _ _) n)
theorem new (wr : World) (hb : Below w.heap.size w wr) : Calls Try.prog 4 #[] wr (fun e w' => ∃ b, e = .returned (.pointer (some ⟨b, 0, none⟩)) ∧ OneDoc w b LDoc.new w') :=
  (new_doc wr).mono fun e w' ⟨b, S, D, h1, h2, h3⟩ => ⟨b, h1, ⟨⟨_, S, D, hb.size, h2⟩, LDoc.new_ok, hb.trans (h3.mono hb.size)⟩⟩
/-- Ops that an edit gave. -/
def Row (w : World) (b : Nat) (st : LDoc) (l : List LOp) (V : Option Addr) (c : Nat) (k : Nat) (wr : World) : Prop :=
  ∃ zs : List OpAt, zs.length = k ∧ zs.map OpAt.op = l ∧ ∃ w7 B S D, w.heap.size ≤ B ∧ DocIs w7 B S b st D ∧ OwnOps wr w7.heap.size V c zs ∧ Below w7.heap.size w7 wr ∧ Below w.heap.size w w7
theorem of_post {k : Int} {l : List LOp} {e : Ending} (h : OneDoc w b st wr) (hp : EditPost wr k l e w') : ∃ V c, e = .returned (.tuple #[.slice V l.length c, errV k]) ∧ Row w b st l V c l.length w' ∧ OneDoc w b st w' := by
  obtain ⟨V, c, zs, rfl, h1, h2, h3⟩ := hp
  have hl : zs.length = l.length := by rw [← h1, List.length_map]
  obtain ⟨B, S, D, g1, g2⟩ := h.doc
  exact ⟨V, c, by rw [hl], ⟨zs, hl, h1, wr, B, S, D, g1, g2, h2, h3, h.below⟩, h.step h3⟩
theorem ins (h : OneDoc w b st wr) (who off : Int) (text : ByteArray) (hw0 : -9223372036854775808 ≤ who) (hw1 : who ≤ 9223372036854775807) (ho : off ≤ 9223372036854775807) (ht : text.size ≤ 9223372036854775807) :
    Calls Try.prog 5 #[.pointer (some ⟨b, 0, none⟩), .int .i64 who, .int .i64 off, .string text] wr (fun e w' => ∃ V c, e = .returned (.tuple #[.slice V (st.insR who off text).length c, errV (st.insE who off text)]) ∧ Row w b st (st.insR who off text) V c (st.insR who off text).length w' ∧ OneDoc w b st w') := by
  obtain ⟨B, S, D, g1, g2⟩ := h.doc
  exact (insert_any wr B S b st D g2 h.ok who off text hw0 hw1 ho ht).mono fun e w' hp => h.of_post hp
theorem del (h : OneDoc w b st wr) (who x y : Int) (hw0 : -9223372036854775808 ≤ who) (hw1 : who ≤ 9223372036854775807) (hx0 : -9223372036854775808 ≤ x) (hx1 : x ≤ 9223372036854775807) (hy0 : -9223372036854775808 ≤ y) (hy1 : y ≤ 9223372036854775807) :
    Calls Try.prog 10 #[.pointer (some ⟨b, 0, none⟩), .int .i64 who, .int .i64 x, .int .i64 y] wr (fun e w' => ∃ V c, e = .returned (.tuple #[.slice V (st.delR who x y).length c, errV (st.delE who x y)]) ∧ Row w b st (st.delR who x y) V c (st.delR who x y).length w' ∧ OneDoc w b st w') := by
  obtain ⟨B, S, D, g1, g2⟩ := h.doc
  exact (delete_any wr B S b st D g2 h.ok who x y hw0 hw1 hx0 hx1 hy0 hy1).mono fun e w' hp => h.of_post hp
theorem und (h : OneDoc w b st wr) (who n : Int) (hw0 : -9223372036854775808 ≤ who) (hw1 : who ≤ 9223372036854775807) :
    Calls Try.prog 7 #[.pointer (some ⟨b, 0, none⟩), .int .i64 who, .int .i64 n] wr (fun e w' => ∃ V c, e = .returned (.tuple #[.slice V (st.undR who n).length c, errV (st.undE who n)]) ∧ Row w b st (st.undR who n) V c (st.undR who n).length w' ∧ OneDoc w b st w') := by
  obtain ⟨B, S, D, g1, g2⟩ := h.doc
  exact (undo_any wr B S b st D g2 h.ok who n hw0 hw1).mono fun e w' hp => h.of_post hp
/-- They are done. -/
theorem do_ {l : List LOp} {V : Option Addr} {c k : Nat} (h : OneDoc w b st wr) (hr : Row w b st l V c k wr) (hsm : ∀ o ∈ l, o.place.size ≤ 12) (hlen : l.length ≤ 1000000) :
    Calls Try.prog 6 #[.pointer (some ⟨b, 0, none⟩), .slice V k c] wr (fun e w' => e = .returned (errV (st.doE l)) ∧ OneDoc w b (st.doR l) w') := by
  obtain ⟨zs, rfl, hz, w7, B, S, D, g1, g2, g3, g4, g5⟩ := hr
  refine (do_row g2 h.ok hsm hlen hz g3 g4).mono ?_
  rintro e w' ⟨rfl, S', D', q1, q2, q3⟩
  have hs := g4.size
  exact ⟨rfl, ⟨⟨B, S', D', g1, q1⟩, LDoc.doR_ok _ h.ok, h.below.trans (q2.below h.below.size (fun g hg => by have := (g2.own g hg).1; omega))⟩⟩
theorem text (h : OneDoc w b st wr) : Calls Try.prog 8 #[.pointer (some ⟨b, 0, none⟩)] wr (fun e w' => e = .returned (.string (textOf st.book)) ∧ OneDoc w b st w') := by
  obtain ⟨B, S, D, g1, g2⟩ := h.doc
  exact (text_doc wr _ _ _ _ _ g2 h.ok).mono fun e w' ⟨h1, h2⟩ => ⟨h1, h.step h2⟩
theorem of_at {B n : Nat} (h : DocAt w B b n wr) (hB : w.heap.size ≤ B) : ∃ st, OneDoc w b st wr ∧ Says st.ops st ∧ Numbered st.ops ∧ st.ops.length ≤ n := by
  obtain ⟨st, S, D, h1, h2, h3, h4, h5, h6⟩ := h
  exact ⟨st, ⟨⟨B, S, D, hB, h1⟩, h2, h6⟩, h3, h4, h5⟩
end OneDoc
theorem delR_few {d : LDoc} (hk : d.Ok) {who a b : Int} : (∀ o ∈ d.delR who a b, o.place.size ≤ 12) ∧ (d.delR who a b).length ≤ 400 := by
  have key : ∀ (l : List LLeaf) (i : Int) (m : LMk), (∀ x ∈ l, x.place.size ≤ 12) → (∀ o ∈ m.ops, o.place.size ≤ 12) → (∀ o ∈ (LMk.strikes a b l i m).ops, o.place.size ≤ 12) ∧ (LMk.strikes a b l i m).ops.length ≤ m.ops.length + l.length := by
    intro l
    induction l with
    | nil => intro i m _ h; exact ⟨h, by simp [LMk.strikes]⟩
    | cons x l ih =>
      intro i m hl h
      unfold LMk.strikes
      split
      · split
        · obtain ⟨q1, q2⟩ := ih (i + 1) (m.st x.place) (fun y hy => hl y (by simp [hy])) (fun o ho => by
            rcases List.mem_append.1 (show o ∈ m.ops ++ [m.put ⟨⟨0, 0⟩, 2, x.place, 0, []⟩] from ho) with h1 | h1
            · exact h o h1
            · simp at h1; subst h1; exact hl x (by simp))
          refine ⟨q1, Nat.le_trans q2 ?_⟩
          show (m.ops ++ [_]).length + l.length ≤ _
          simp; omega
        · obtain ⟨q1, q2⟩ := ih (i + 1) m (fun y hy => hl y (by simp [hy])) h
          exact ⟨q1, Nat.le_trans q2 (by simp)⟩
      · obtain ⟨q1, q2⟩ := ih i m (fun y hy => hl y (by simp [hy])) h
        exact ⟨q1, Nat.le_trans q2 (by simp)⟩
  unfold LDoc.delR
  split
  · unfold LMk.del
    split
    · simp [LDoc.maker]
    · obtain ⟨q1, q2⟩ := key d.book 0 (d.maker who) (fun x hx => place_small (hk.book.leafs x hx).place) (by simp [LDoc.maker])
      refine ⟨q1, Nat.le_trans q2 ?_⟩
      have := hk.book.few
      simp [LDoc.maker]
      omega
  · simp
end Go.Proofs.Ytngalkmmpjegkaa
/- What is typed in a new document, taken back; what is typed in any, taken back: plain. Conditions: none. -/
namespace Go.Proofs.Ytngalkmmpjegkaa
open Go.RowKit
set_option linter.unusedVariables false
theorem textL_seen (l : List LLeaf) (h : ∀ x ∈ l, seenB x = true) : textL l = l.map fun x => u8 x.letter := by
  unfold textL
  rw [List.filter_eq_self.2 h]
theorem ext_take0 {s : ByteArray} {k : Nat} : (s.extract 0 k).toList = s.toList.take k := by
  rw [toList_data, ByteArray.data_extract, Array.toList_extract, List.extract_eq_take_drop, toList_data]
  simp
theorem typed_leaf {d : LDoc} {who off : Int} {text : ByteArray} (h : d.insE who off text = 0) : ∀ o ∈ d.insR who off text, o.dot.who = who ∧ o.what = 1 ∧ letterB o.letter = true := by
  obtain ⟨h1, h2⟩ := LDoc.ins_each h
  obtain ⟨_, a2, _⟩ := LDoc.ins_ok h
  obtain ⟨_, i2, _⟩ := insErr_zero a2
  intro o ho
  obtain ⟨g1, g2, _⟩ := h1 o ho
  refine ⟨g1, g2, ?_⟩
  have : o.letter ∈ (d.insR who off text).map LOp.letter := List.mem_map.2 ⟨o, ho, rfl⟩
  rw [h2] at this
  obtain ⟨c, hc, e⟩ := List.mem_map.1 this
  rw [← e]
  cases hb : badC c with
  | false => unfold badC at hb; simpa using hb
  | true =>
    have h3 : text.toList.any badC = true := List.any_eq_true.2 ⟨c, hc, hb⟩
    rw [i2] at h3; cases h3
theorem leaf_seen {o : LOp} (h : letterB o.letter = true) : seenB (leafOf o) = true := by
  have := letterB_range h
  unfold seenB leafOf
  simp; omega
/-- The whole law of one author alone. -/
theorem all_back {text : ByteArray} (h : LDoc.new.insE 1 0 text = 0) (h60 : text.size ≤ 60) :
    LDoc.new.doE (LDoc.new.insR 1 0 text) = 0 ∧ (LDoc.new.doR (LDoc.new.insR 1 0 text)).Ok ∧ ∀ m : Nat, m ≤ 200 →
      (LDoc.new.doR (LDoc.new.insR 1 0 text)).undE 1 (m : Int) = 0 ∧ ((LDoc.new.doR (LDoc.new.insR 1 0 text)).undR 1 (m : Int)).length = min m text.size ∧ (LDoc.new.doR (LDoc.new.insR 1 0 text)).doE ((LDoc.new.doR (LDoc.new.insR 1 0 text)).undR 1 (m : Int)) = 0 ∧
      textOf ((LDoc.new.doR (LDoc.new.insR 1 0 text)).doR ((LDoc.new.doR (LDoc.new.insR 1 0 text)).undR 1 (m : Int))).book = text.extract 0 (text.size - m) := by
  obtain ⟨t1, _, _, t4⟩ := (LDoc.Typing.new (who := 1) (by decide)).step (off := 0) (text := text) h (by simp; omega)
  obtain ⟨a, b, e1, e2, e3, e4, e5, e6, e7, _⟩ := LDoc.ins_does LDoc.new_ok h t1
  have hab : a = [] ∧ b = [] := by
    have : a ++ b = [] := by rw [← e1]; rfl
    simpa using this
  obtain ⟨rfl, rfl⟩ := hab
  have hk := t4.ok
  have hn := t4.n
  have hlen : (LDoc.new.insR 1 0 text).length = text.size := by
    have := congrArg List.length (LDoc.ins_each h).2
    rw [List.length_map, List.length_map, toList_len] at this
    exact this
  have hY := typed_leaf h
  have htl : (LDoc.new.insR 1 0 text).map (fun o => u8 o.letter) = text.toList := by
    rw [← e4, textL_seen]
    · rw [List.map_map]; rfl
    · intro x hx
      obtain ⟨o, ho, rfl⟩ := List.mem_map.1 hx
      exact leaf_seen (hY o ho).2.2
  refine ⟨t1, hk, fun m hm => ?_⟩
  generalize LDoc.new.insR 1 0 text = Y at *
  generalize LDoc.new.doR Y = st at *
  have hops : st.ops = [] ++ Y := by rw [e7]; rfl
  have hn2 : nOf st.known ⟨1, 0⟩ = (text.size : Int) := by
    rw [hn]
    simp [toList_len]
  obtain ⟨k, r, hkr, hk1, hk2⟩ : ∃ k r : Nat, m = k + r ∧ k ≤ Y.length ∧ (r = 0 ∨ (k = Y.length ∧ ([] : List LOp) = [])) := by
    rcases Nat.le_total m Y.length with hc | hc
    · exact ⟨m, 0, rfl, hc, .inl rfl⟩
    · exact ⟨Y.length, m - Y.length, by omega, Nat.le_refl _, .inr ⟨rfl, rfl⟩⟩
  obtain ⟨b1, b2, b3, b4⟩ := back_typed hk (a := []) (c := []) (Y := Y) (R := []) (by rw [e3]) hops (show LDoc.whoE 1 = 0 by decide) hY hk1 hk2 (by omega)
  rw [← hkr] at b1 b2 b3 b4
  have hdo := b3 (by rw [hops]; simp; omega) (by rw [hn2]; omega)
  refine ⟨b1, by rw [b2]; omega, hdo, ?_⟩
  apply tl_inj
  rw [LDoc.tx_list, b4 hdo, ext_take0, ← htl, textL_seen (List.map leafOf (Y.take (Y.length - k)))]
  · have e8 : Y.length - k = text.size - m := by omega
    rw [List.map_map, e8, List.map_take]
    simp [textL]
    rfl
  · intro x hx
    obtain ⟨o, ho, rfl⟩ := List.mem_map.1 hx
    exact leaf_seen (hY o (List.mem_of_mem_take ho)).2.2
theorem hi_two : hiDoc.undE 1 1 = 0 ∧ (hiDoc.undR 1 1).length = 1 ∧ hiDoc.doE (hiDoc.undR 1 1) = 0 ∧ textOf (hiDoc.doR (hiDoc.undR 1 1)).book = ⟨#[104]⟩ := by
  obtain ⟨_, _, h⟩ := all_back hi_ins (by decide)
  exact h 1 (by omega)
/-- What is typed, and taken back: the text is what it was. -/
theorem back_ins {st : LDoc} (hk : st.Ok) {who off : Int} {text : ByteArray} (h : st.insE who off text = 0) (hd : st.doE (st.insR who off text) = 0) :
    text.size ≤ 200 ∧ ((st.doR (st.insR who off text)).undR who (text.size : Int)).length = text.size ∧
      ((st.doR (st.insR who off text)).doE ((st.doR (st.insR who off text)).undR who (text.size : Int)) = 0 → textOf ((st.doR (st.insR who off text)).doR ((st.doR (st.insR who off text)).undR who (text.size : Int))).book = textOf st.book) := by
  obtain ⟨h1, a2, _⟩ := LDoc.ins_ok h
  obtain ⟨i1, _⟩ := insErr_zero a2
  obtain ⟨a, b, e1, e2, e3, e4, e5, e6, e7, _⟩ := LDoc.ins_does hk h hd
  have hk2 := LDoc.doR_ok (st.insR who off text) hk
  have hY := typed_leaf h
  have hlen : (st.insR who off text).length = text.size := by
    have := congrArg List.length (LDoc.ins_each h).2
    rw [List.length_map, List.length_map, toList_len] at this
    exact this
  generalize st.insR who off text = Y at *
  generalize st.doR Y = d at *
  obtain ⟨b1, b2, b3, b4⟩ := back_typed hk2 (a := a) (c := b) (Y := Y) (R := st.ops) e3 e7 h1 hY (k := Y.length) (r := 0) (Nat.le_refl _) (.inl rfl) (by omega)
  rw [Nat.add_zero, hlen] at b2 b4
  refine ⟨i1, b2, fun hdo => ?_⟩
  apply tl_inj
  rw [LDoc.tx_list, LDoc.tx_list, b4 hdo, e1]
  have e8 : text.size - text.size = 0 := by omega
  rw [hlen] at *
  rw [e8, textL_two]
  simp [textL]
end Go.Proofs.Ytngalkmmpjegkaa
/- The end of a line as plain data: what the program's package link does, and how it lies in memory. Conditions: none. -/
namespace Go.Proofs.Ytngalkmmpjegkaa
open Go.RowKit

structure LEnd where
  win : Nat
  wait : Nat
  data : List ByteArray
  acked : Nat
  said : Nat
  ticks : Nat
  got : List ByteArray
  owes : Bool

structure LFrame where
  ack : Bool
  seq : Int
  data : ByteArray

def LFrame.cells (f : LFrame) : List Value := [.bool f.ack, .int .i64 f.seq, .string f.data]
def fcells (l : List LFrame) : List Value := l.flatMap LFrame.cells
theorem fcells_append (a b : List LFrame) : fcells (a ++ b) = fcells a ++ fcells b := by simp [fcells]
theorem fcells_len (l : List LFrame) : (fcells l).length = l.length * 3 := by
  induction l with
  | nil => rfl
  | cons f l ih => simp [fcells, LFrame.cells] at ih ⊢; omega
theorem oneCells_f (l : List LFrame) : OneCells (fcells l) := by
  intro u hu
  obtain ⟨f, _, h⟩ := List.mem_flatMap.1 hu
  simp only [LFrame.cells, List.mem_cons, List.not_mem_nil, or_false] at h
  rcases h with rfl | rfl | rfl <;> rfl

def LEnd.new (win wait : Nat) : LEnd := ⟨win, wait, [], 0, 0, 0, [], false⟩
def LEnd.send (st : LEnd) (s : ByteArray) : LEnd := { st with data := st.data ++ [s] }
/-- How many frames of data it may say, from the first that is not acknowledged. -/
def LEnd.wide (st : LEnd) : Nat := min st.win st.data.length
/-- How many of these it passes over, as it said them already. -/
def LEnd.skip (st : LEnd) : Nat := if st.wait ≤ st.ticks then 0 else max st.said st.acked - st.acked
def LEnd.frame (st : LEnd) (j : Nat) : LFrame := ⟨false, st.acked + j + 1, st.data.getD j ⟨#[]⟩⟩
def LEnd.ackFrames (st : LEnd) : List LFrame := if st.owes then [⟨true, st.got.length, ⟨#[]⟩⟩] else []
def LEnd.outFrames (st : LEnd) : List LFrame := st.ackFrames ++ (List.range' st.skip (st.wide - st.skip)).map st.frame
def LEnd.out (st : LEnd) : LEnd := { st with owes := false, ticks := if st.skip < st.wide then 0 else st.ticks, said := max st.said (st.acked + st.wide) }
def LEnd.tick (st : LEnd) : LEnd := { st with ticks := st.ticks + 1 }
/-- What is wrong with a frame that is heard. -/
def LEnd.hearErr (st : LEnd) (f : LFrame) : Int :=
  if f.ack then (if f.seq < 0 ∨ (st.said : Int) < f.seq then 1 else if f.data.size ≠ 0 then 3 else 0)
  else (if f.seq < 1 then 1 else if 200 < f.data.size then 4 else 0)
def LEnd.hear (st : LEnd) (f : LFrame) : LEnd :=
  if st.hearErr f ≠ 0 then st
  else if f.ack then (if (st.acked : Int) < f.seq then { st with data := st.data.drop (f.seq.toNat - st.acked), acked := f.seq.toNat } else st)
  else { st with got := if f.seq = st.got.length + 1 then st.got ++ [f.data] else st.got, owes := true }

/-- What holds of each end. -/
structure LEnd.Ok (st : LEnd) : Prop where
  win1 : 1 ≤ st.win
  win2 : st.win ≤ 16
  wait1 : 1 ≤ st.wait
  wait2 : st.wait ≤ 20
  data : st.data.length ≤ 100
  acked : st.acked ≤ 100000
  said : st.said ≤ st.acked + st.data.length
  ticks : st.ticks ≤ 100000
  got : st.got.length ≤ 100000

/-- The cells of an end. -/
def LEnd.cells (st : LEnd) (A : Option Addr) (ca : Nat) (G : Option Addr) (cg : Nat) : Array Value :=
  #[.int .i64 st.win, .int .i64 st.wait, .slice A st.data.length ca, .int .i64 st.acked, .int .i64 st.said, .int .i64 st.ticks, .slice G st.got.length cg, .bool st.owes]

theorem elemS : Elem Try.prog 115 9 1 16 := Elem.mk_ (z := .string ⟨#[]⟩) Try.underlying115 (by kernel_rfl) rfl (by decide)
/-- The blocks of an end. -/
def endBlocks (b : Nat) (A G : Option Addr) : List Nat := b :: (ob A ++ ob G)
section
variable {w w' : World} {B b ca cg : Nat} {A G : Option Addr} {st : LEnd}
end
end Go.Proofs.Ytngalkmmpjegkaa
/- Arguments opened: texts, numbers. Plain lemmas. Conditions: none of our own. -/
namespace Go.Proofs.Ytngalkmmpjegkaa
open Go.RowKit Go.WideShapes Go.ChangeShapes Go.Deep
set_option linter.unusedVariables false
theorem cellsFInt : Try.prog.cellsOf 3 = 1 := by kernel_rfl
theorem cellsFStr : Try.prog.cellsOf 9 = 1 := by kernel_rfl
section
variable {H : Type} {enc : TypeId × Value → H} {w : World} {base : Nat} {spare : Nat → Bool} {held : Bool}
theorem flat_one {α : Type} (f : α → Value) (l : List α) : l.flatMap (fun x => [f x]) = l.map f := by
  induction l with
  | nil => rfl
  | cons x l ih => simp [List.flatMap_cons, ih]
set_option maxRecDepth 100000 in
theorem arg_strs {r : Reach} {b0 : Nat} {v : Value} {d : DataW H} {p : List MemPlace} (hv : Value.okWide Try.prog w r b0 115 v) (h : DataW.Trod enc Try.prog w base spare held 115 v d p) :
    ∃ (A : Option Addr) (cap : Nat) (l : List ByteArray), v = .slice A l.length cap ∧ Reads w w.heap.size 1 A l.length (strs l) ∧ (∀ y ∈ l, y.size ≤ maxLen) ∧ l.length ≤ cap ∧ cap ≤ maxLen := by
  obtain ⟨a, len, c, rfl⟩ := okWide_slice Try.underlying115 hv
  obtain ⟨fuel, hf⟩ := h
  obtain ⟨A, cap, l, e, hr, h2⟩ := open_list (α := ByteArray) (fun s => [.string s]) (fun s => s.size ≤ maxLen) Try.underlying115 cellsFStr (by decide) (fun _ => rfl) (fun _ cs _ h => by
    obtain ⟨s, e, _, hs⟩ := DataW.trod_string Try.underlying9 h
    exact ⟨s, e, hs⟩) hf
  rw [flat_one] at hr
  refine ⟨A, cap, l, ?_, hr, h2⟩
  have e' : [Value.slice a len c] = [.slice A l.length cap] := e
  injection e'
set_option maxRecDepth 100000 in
theorem arg_ints {r : Reach} {b0 : Nat} {v : Value} {d : DataW H} {p : List MemPlace} (hv : Value.okWide Try.prog w r b0 41 v) (h : DataW.Trod enc Try.prog w base spare held 41 v d p) :
    ∃ (A : Option Addr) (cap : Nat) (l : List Int), v = .slice A l.length cap ∧ Reads w w.heap.size 1 A l.length (l.map (Value.int .i64)) ∧ (∀ y ∈ l, I64 y) ∧ l.length ≤ cap ∧ cap ≤ maxLen := by
  obtain ⟨a, len, c, rfl⟩ := okWide_slice Try.underlying41 hv
  obtain ⟨fuel, hf⟩ := h
  obtain ⟨A, cap, l, e, hr, h2⟩ := open_list (α := Int) (fun s => [.int .i64 s]) I64 Try.underlying41 cellsFInt (by decide) (fun _ => rfl) (fun _ cs _ h => by
    obtain ⟨s, e, _, hs⟩ := DataW.trod_int Try.underlying3 h
    exact ⟨s, e, i64_of_wf hs⟩) hf
  rw [flat_one] at hr
  refine ⟨A, cap, l, ?_, hr, h2⟩
  have e' : [Value.slice a len c] = [.slice A l.length cap] := e
  injection e'
end
end Go.Proofs.Ytngalkmmpjegkaa
/- Arguments opened: frames, texts, numbers. Plain lemmas. Conditions: none of our own. -/
namespace Go.Proofs.Ytngalkmmpjegkaa
open Go.RowKit Go.WideShapes Go.ChangeShapes Go.Deep
set_option linter.unusedVariables false

instance : Inhabited LFrame := ⟨⟨false, 0, ⟨#[]⟩⟩⟩
def LFrame.In (x : LFrame) : Prop := x.data.size ≤ maxLen ∧ I64 x.seq
theorem cellsFBool : Try.prog.cellsOf 4 = 1 := by kernel_rfl
section
variable {H : Type} {enc : TypeId × Value → H} {w : World} {base : Nat} {spare : Nat → Bool} {held : Bool}
end
end Go.Proofs.Ytngalkmmpjegkaa
/- From a walk to a given statement: one theorem that serves every law of the seat. Conditions: none of our own. -/
namespace Go.Proofs.Ytngalkmmpjegkaa
open Go.RowKit Go.WideShapes Go.ChangeShapes Go.ChangeAt
set_option linter.unusedVariables false

section
variable {H : Type} {enc : TypeId × Value → H} {P : Program}

theorem post_of_below {f : Func} {s : ChangeSpec} {apart fresh handsOn again : Bool} {W W' : World} {args : Array Value} {v : Value} {ds gs : List (DataW H)} {before pa pv : List MemPlace}
    (hW : DataW.Whole enc P f.params.toList s.vars apart W args.toList ds gs before)
    (hres : ∀ (b : Nat) (sp : Nat → Bool) (hd : Bool), DataW.TrodAll enc P W' b sp hd f.resultTypes.toList (v.resultList f.resultTypes.size) (s.fn H (ds ++ gs)).results [])
    (hargs : ∀ sp : Nat → Bool, (∀ p ∈ before, sp p.block = true) → DataW.TrodAll enc P W' 0 sp true f.params.toList args.toList (s.fn H (ds ++ gs)).args pa)
    (hvars : ∀ sp : Nat → Bool, (∀ p ∈ before, sp p.block = true) → DataW.TrodVars enc P W' sp s.vars (s.fn H (ds ++ gs)).vars pv)
    (hps : before = pa ++ pv) (hb : Below W.heap.size W W')
    (hok : ∀ (j : Nat) (t : TypeId) (r : Value), f.resultTypes[j]? = some t → (v.resultList f.resultTypes.size)[j]? = some r → Value.okWide P W' .any 0 t r) :
    s.post enc P f apart fresh handsOn again W args v W' := by
  have hlt : ∀ p ∈ before, p.block < W.heap.size := fun p hp => hW.lt p hp
  have hold : ∀ p ∈ before, (fun b => decide (b < W.heap.size)) p.block = true := fun p hp => by simpa using hlt p hp
  refine ⟨ds, gs, before, [], pa, pv, hW, hres _ _ _, hargs _ hold, hvars _ hold, World.keptBut_mono (fun p hp => ⟨hp, ?_⟩) (hb.frame (· ∈ before)), fun _ => ?_⟩
  · rw [hps, List.mem_append] at hp
    exact Or.inr hp
  · obtain ⟨_, _, _, _, _, hz, hn⟩ := hW
    refine ⟨hok, _, _, ([] ++ pa) ++ pv, ⟨[] ++ pa, pv, trodAll_append (hargs _ (fun _ _ => rfl)) (hres _ _ _), hvars _ (fun _ _ => rfl), rfl, ?_, ?_⟩, ?_⟩
    · intro b off hp
      have hin : MemPlace.cell b off ∈ before := by rw [hps]; simpa using hp
      rw [hb.frozen (hlt _ hin)]
      exact hz b off hin
    · intro ha
      have := hn ha
      rw [hps] at this
      simpa using this
    · intro p hp _
      rw [hps]
      simpa using hp

theorem trodAll_below (hl : laidOutB P = true) {W W' : World} (hb : Below W.heap.size W W') {sp : Nat → Bool} :
    ∀ (ts : List TypeId) (vs : List Value) (ds : List (DataW H)) (ps : List MemPlace), (∀ t ∈ ts, P.readableRec t = true ∧ t < P.types.size) → (∀ p ∈ ps, p.block < W.heap.size) → (∀ p ∈ ps, sp p.block = true) →
      DataW.TrodAll enc P W 0 (fun _ => true) true ts vs ds ps → DataW.TrodAll enc P W' 0 sp true ts vs ds ps := by
  intro ts
  induction ts with
  | nil => intro vs ds ps _ _ _ h; cases vs <;> cases ds <;> simp_all [DataW.TrodAll]
  | cons t ts ih =>
    intro vs ds ps ht hlt hs h
    cases vs with
    | nil => simp [DataW.TrodAll] at h
    | cons v vs =>
      cases ds with
      | nil => simp [DataW.TrodAll] at h
      | cons d ds =>
        obtain ⟨p, q, h1, h2, rfl⟩ := h
        exact ⟨p, q, WideElems.Trod_stays hl (ht t (by simp)).1 (ht t (by simp)).2 h1 (fun x hx => hb.same (hlt x (by simp [hx]))) (fun x hx => hs x (by simp [hx])),
          ih vs ds q (fun t' h' => ht t' (by simp [h'])) (fun x hx => hlt x (by simp [hx])) (fun x hx => hs x (by simp [hx])) h2, rfl⟩

/-- A law: it answered true, and nothing that was there has turned. -/
theorem law_post (hl : laidOutB P = true) {f : Func} {s : ChangeSpec} {apart fresh handsOn again : Bool} {tb : TypeId} {W W' : World} {args : Array Value} {ds gs : List (DataW H)} {before : List MemPlace}
    (hr : f.resultTypes = #[tb]) (htb : P.underlying tb = some .bool) (hp : ∀ t ∈ f.params.toList, P.readableRec t = true ∧ t < P.types.size) (hv : s.vars = [])
    (hfn : s.fn H ds = { results := [.lit (.bool true)], args := ds })
    (hW : DataW.Whole enc P f.params.toList s.vars apart W args.toList ds gs before) (hb : Below W.heap.size W W') :
    s.post enc P f apart fresh handsOn again W args (.bool true) W' := by
  have hW' := hW
  obtain ⟨p, q, hA, hV, hpq, hfz, hnd⟩ := hW
  have hlt : ∀ x ∈ before, x.block < W.heap.size := fun x hx => hW'.lt x hx
  rw [hv] at hV
  obtain ⟨hgs, hq⟩ := trodVars_none hV
  subst hgs; subst hq
  simp only [List.append_nil] at hpq
  subst hpq
  refine post_of_below (pa := before) (pv := []) hW' ?_ ?_ ?_ (by simp) hb ?_
  · intro b sp hd
    rw [List.append_nil, hfn, hr]
    exact trodAll_mk1 (shut_bool htb _)
  · intro sp hs
    rw [List.append_nil, hfn]
    exact trodAll_below hl hb _ _ _ _ hp hlt hs hA
  · intro sp hs
    rw [List.append_nil, hfn, hv]
    exact rfl
  · exact ok_one hr rfl (okWide_bool_mk htb _)
end

theorem Try.own : ownKnob Try.prog.godebug = none := by kernel_rfl
theorem Try.laidOut : laidOutB Try.prog = true := by kernel_rfl
end Go.Proofs.Ytngalkmmpjegkaa
/- Five and six arguments taken apart. Plain lemmas. Conditions: none. -/
namespace Go.Proofs.Ytngalkmmpjegkaa
open Go.WideShapes Go.ChangeShapes
section
variable {H : Type} {enc : TypeId × Value → H} {P : Program} {w : World} {base : Nat} {spare : Nat → Bool} {held : Bool}
theorem trodAll_five {t t' t'' t3 t4 : TypeId} {args : Array Value} {ds : List (DataW H)} {ps : List MemPlace} (h : DataW.TrodAll enc P w base spare held [t, t', t'', t3, t4] args.toList ds ps) :
    ∃ v v' v'' v3 v4 d d' d'' d3 d4 p p' p'' p3 p4, args = #[v, v', v'', v3, v4] ∧ ds = [d, d', d'', d3, d4] ∧ ps = p ++ p' ++ p'' ++ p3 ++ p4 ∧ DataW.Trod enc P w base spare held t v d p ∧ DataW.Trod enc P w base spare held t' v' d' p' ∧
      DataW.Trod enc P w base spare held t'' v'' d'' p'' ∧ DataW.Trod enc P w base spare held t3 v3 d3 p3 ∧ DataW.Trod enc P w base spare held t4 v4 d4 p4 := by
  obtain ⟨v, vs, d, ds', p, q, hargs, rfl, rfl, hd, hrest⟩ := trodAll_cons h
  obtain ⟨v', vs', d', ds'', p', q', rfl, rfl, rfl, hd', hrest'⟩ := trodAll_cons hrest
  obtain ⟨v'', vs'', d'', ds''', p'', q'', rfl, rfl, rfl, hd'', hrest''⟩ := trodAll_cons hrest'
  obtain ⟨v3, vs3, d3, ds4, p3, q3, rfl, rfl, rfl, hd3, hrest3⟩ := trodAll_cons hrest''
  obtain ⟨v4, vs4, d4, ds5, p4, q4, rfl, rfl, rfl, hd4, hrest4⟩ := trodAll_cons hrest3
  obtain ⟨rfl, rfl, rfl⟩ := trodAll_nil hrest4
  exact ⟨v, v', v'', v3, v4, d, d', d'', d3, d4, p, p', p'', p3, p4, by cases args; simp_all, rfl, by simp, hd, hd', hd'', hd3, hd4⟩
theorem trodAll_six {t t' t'' t3 t4 t5 : TypeId} {args : Array Value} {ds : List (DataW H)} {ps : List MemPlace} (h : DataW.TrodAll enc P w base spare held [t, t', t'', t3, t4, t5] args.toList ds ps) :
    ∃ v v' v'' v3 v4 v5 d d' d'' d3 d4 d5 p p' p'' p3 p4 p5, args = #[v, v', v'', v3, v4, v5] ∧ ds = [d, d', d'', d3, d4, d5] ∧ ps = p ++ p' ++ p'' ++ p3 ++ p4 ++ p5 ∧ DataW.Trod enc P w base spare held t v d p ∧ DataW.Trod enc P w base spare held t' v' d' p' ∧
      DataW.Trod enc P w base spare held t'' v'' d'' p'' ∧ DataW.Trod enc P w base spare held t3 v3 d3 p3 ∧ DataW.Trod enc P w base spare held t4 v4 d4 p4 ∧ DataW.Trod enc P w base spare held t5 v5 d5 p5 := by
  obtain ⟨v, vs, d, ds', p, q, hargs, rfl, rfl, hd, hrest⟩ := trodAll_cons h
  obtain ⟨v', vs', d', ds'', p', q', rfl, rfl, rfl, hd', hrest'⟩ := trodAll_cons hrest
  obtain ⟨v'', vs'', d'', ds''', p'', q'', rfl, rfl, rfl, hd'', hrest''⟩ := trodAll_cons hrest'
  obtain ⟨v3, vs3, d3, ds4, p3, q3, rfl, rfl, rfl, hd3, hrest3⟩ := trodAll_cons hrest''
  obtain ⟨v4, vs4, d4, ds5, p4, q4, rfl, rfl, rfl, hd4, hrest4⟩ := trodAll_cons hrest3
  obtain ⟨v5, vs5, d5, ds6, p5, q5, rfl, rfl, rfl, hd5, hrest5⟩ := trodAll_cons hrest4
  obtain ⟨rfl, rfl, rfl⟩ := trodAll_nil hrest5
  exact ⟨v, v', v'', v3, v4, v5, d, d', d'', d3, d4, d5, p, p', p'', p3, p4, p5, by cases args; simp_all, rfl, by simp, hd, hd', hd'', hd3, hd4, hd5⟩
end
end Go.Proofs.Ytngalkmmpjegkaa
/- leaflaw3.BackUndoes, proved: what an author has just written, or struck, is taken back, and what is seen is what was seen ahead of it. Conditions: none. -/
namespace Go.Proofs.Ytngalkmmpjegkaa
open Go.RowKit Go.WideShapes Go.ChangeShapes Go.ChangeAt
set_option linter.unusedVariables false
namespace lawBackUndoes
set_option maxRecDepth 100000 in
set_option maxHeartbeats 8000000 in
theorem walk (w : World) (A0 : Option Addr) (c0 : Nat) (ys : List OpAt) (who off : Int) (text : ByteArray) (strike : Bool) (h0 : Reads w w.heap.size 6 A0 ys.length (ocells ys)) (hg : ∀ y ∈ ys, y.Good w)
    (hn0 : ys.length ≤ 9223372036854775807) (hw0 : -9223372036854775808 ≤ who) (hw1 : who ≤ 9223372036854775807) (ho0 : -9223372036854775808 ≤ off) (ho1 : off ≤ 9223372036854775807) (ht : text.size ≤ 9223372036854775807) :
    Calls Try.prog 3 #[.slice A0 ys.length c0, .int .i64 who, .int .i64 off, .string text, .bool strike] w (CheckPost w (.bool true)) := by
  have HR0 := Lib.hid h0
  have HG := Lib.hid hg
  have HE0 : errV 0 = .nilIface := rfl
  have HN := Lib.hid (OneDoc.new w (Below.refl _ w))
  have HF := Lib.hid hi_two
  have hst : ((⟨#[104]⟩ : ByteArray).toList == (⟨#[104]⟩ : ByteArray).toList) = true := by simp
  clear h0 hg
  go_enter Try.func3, Try.ntmps3
  go_wp2_with fail
  refine HN.out.mono ?_
  rintro e w1 ⟨z, rfl, hd⟩
  have HI := Lib.hid (hd.ins 1 0 hiT (by decide) (by decide) (by decide) (by decide))
  rw [hi_ins, HE0] at HI
  clear hd HN
  go_wp2_with fail
  refine HI.out.mono ?_
  rintro e w2 ⟨V, c, rfl, hr, hd⟩
  have HDO := Lib.hid (hd.do_ hr insR_small (by have := insR_len (d := LDoc.new) (who := 1) (off := 0) (text := hiT); omega))
  rw [hi_do, HE0] at HDO
  clear hr hd HI
  generalize (LDoc.new.insR 1 0 hiT).length = L at *
  go_wp2_with fail
  refine HDO.out.mono ?_
  rintro e w3 ⟨rfl, hd⟩
  have HU := Lib.hid (show Calls _ _ _ _ _ from OneDoc.und (st := hiDoc) hd 1 1 (by decide) (by decide))
  rw [HF.out.1, HF.out.2.1, HE0] at HU
  clear hd HDO
  go_wp2_with fail
  refine HU.out.mono ?_
  rintro e w4 ⟨V4, c4, rfl, hr, hd⟩
  have HDO := Lib.hid (hd.do_ hr (LDoc.undR_few hi_ok 1 1).1 (by have := (LDoc.undR_few hi_ok 1 1).2; omega))
  rw [HF.out.2.2.1, HE0] at HDO
  clear hr hd HU
  go_wp2_with fail
  refine HDO.out.mono ?_
  rintro e w5 ⟨rfl, hd⟩
  have HT := Lib.hid hd.text
  rw [HF.out.2.2.2] at HT
  clear hd HDO HF
  go_wp2_with fail
  refine HT.out.mono ?_
  rintro e w6 ⟨rfl, hd⟩
  have HB6 := Lib.hid hd.below
  have HN := Lib.hid (new_doc w6)
  clear hd HT
  go_wp2_with fail
  refine HN.out.mono ?_
  rintro e w7 ⟨bd, S0, D0, rfl, hd0, hb2⟩
  have HD0 : Hid (DocAt w w6.heap.size bd 0 w7) := DocAt.new hd0 (HB6.out.trans (hb2.mono HB6.out.size)) 0
  have hB : w.heap.size ≤ w6.heap.size := HB6.out.size
  clear hd0 hb2 HN HB6 hst
  go_upto_block 0 with (fail)
  go_cut [16] (fun _ wx => DocAt w w6.heap.size bd 60 wx)
  case first =>
    go_wp2_with fail
    go_loopw [16] (fun i wr => DocLoop w w6.heap.size bd i wr) (fun i _ => 60 - (intOf i).toNat)
    case atStart => exact ⟨0, by omega, rfl, HD0.out⟩
    case round =>
      obtain ⟨k, hk, rfl, HK⟩ := hrel
      have k0 : (0 : Int) ≤ (k : Int) := by omega
      by_cases h1 : k < ys.length
      · have k1 : (k : Int) < (ys.length : Int) := by omega
        by_cases h2 : k < 60
        · have k2 : (k : Int) < 60 := by omega
          obtain ⟨ad, who', nn, what, p', letter', seen, ya, yc, rfl, d0, d1, d2, d3, d4, d5, hC⟩ := HK.out.round hB HR0.out HG.out h1
          have HC := Lib.hid hC
          clear hC HK
          go_wp2_with fail
          refine HC.out.mono ?_
          rintro e wy ⟨⟨is, ke, rfl⟩, hD⟩
          have HDX := Lib.hid hD
          clear hD HC
          go_wp2_with fail
          go_roundw
          case rel => exact ⟨k + 1, by omega, by go_num, HDX.out⟩
          case measure => simp [intOf]; omega
        · have k2 : ¬ (k : Int) < 60 := by omega
          have HF := Lib.hid (HK.out.more (m := 60) (by omega))
          go_wp2_with fail
          go_meet
          case rel => exact HF.out
      · have k1 : ¬ (k : Int) < (ys.length : Int) := by omega
        have HF := Lib.hid (HK.out.more (m := 60) (by omega))
        go_wp2_with fail
        go_meet
        case rel => exact HF.out
  case rest =>
    obtain ⟨st, hd, hsay, _⟩ := OneDoc.of_at hcut hB
    have HD := Lib.hid hd
    have OK := Lib.hid hd.ok
    have SAY := Lib.hid hsay
    have HT := Lib.hid hd.text
    have HS := Lib.hid (strOf_size (textL st.book))
    clear hd hsay hcut HD0 HR0 HG hB
    have HRES : Hid (∀ X : ByteArray, (X.toList == X.toList) = true) := fun X => by simp
    go_wp2_with fail
    refine HT.out.mono ?_
    rintro e w8 ⟨rfl, hd⟩
    have HI := Lib.hid (hd.ins who off text hw0 hw1 ho1 ht)
    clear hd HT HD
    cases strike with
    | false =>
      go_wp2_with fail
      refine HI.out.mono ?_
      rintro e w9 ⟨V9, c9, rfl, hr, hd⟩
      have HB9 := Lib.hid hd.below
      have HD9 := Lib.hid hd
      have HR9 := Lib.hid hr
      clear hr hd HI
      by_cases hie : st.insE who off text = 0
      · rw [hie, HE0]
        have HDO := Lib.hid (HD9.out.do_ HR9.out insR_small (by have := insR_len (d := st) (who := who) (off := off) (text := text); omega))
        have HIE := Lib.hid hie
        have HIF := Lib.hid (fun h => back_ins (who := who) (off := off) (text := text) OK.out hie h)
        clear hie HR9 HD9
        generalize (st.insR who off text).length = L at *
        go_wp2_with fail
        refine HDO.out.mono ?_
        rintro e w10 ⟨rfl, hd⟩
        have HB10 := Lib.hid hd.below
        have HD10 := Lib.hid hd
        clear hd HDO
        by_cases hde : st.doE (st.insR who off text) = 0
        · rw [hde, HE0]
          obtain ⟨t1, t2, t3⟩ := HIF.out hde
          have HU := Lib.hid (HD10.out.und who text.size hw0 hw1)
          have HT3 := Lib.hid t3
          rw [t2] at HU
          have OK10 := Lib.hid HD10.out.ok
          clear hde HIF t2 t3 HD10
          generalize st.doR (st.insR who off text) = d at *
          go_wp2_with fail
          refine HU.out.mono ?_
          rintro e w11 ⟨V11, c11, rfl, hr, hd⟩
          have HB11 := Lib.hid hd.below
          have HD11 := Lib.hid hd
          have HR11 := Lib.hid hr
          clear hr hd HU
          by_cases hue : d.undE who text.size = 0
          · rw [hue, HE0]
            have HDO := Lib.hid (HD11.out.do_ HR11.out (LDoc.undR_few OK10.out who text.size).1 (by have := (LDoc.undR_few OK10.out who text.size).2; omega))
            clear hue HR11 HD11
            go_wp2_with fail
            refine HDO.out.mono ?_
            rintro e w12 ⟨rfl, hd⟩
            have HB12 := Lib.hid hd.below
            have HD12 := Lib.hid hd
            clear hd HDO
            by_cases hdu : d.doE (d.undR who text.size) = 0
            · rw [hdu, HE0]
              have HT := Lib.hid HD12.out.text
              rw [HT3.out hdu] at HT
              have hX := HRES.out (textOf st.book)
              clear hdu HT3 HD12
              go_wp2_with fail
              refine HT.out.mono ?_
              rintro e w13 ⟨rfl, hd⟩
              have HB13 := Lib.hid hd.below
              clear hd HT
              go_wp2_with fail
              go_ret
              exact ⟨rfl, HB13.out⟩
            · have HV := Lib.hid (errV_ne hdu)
              rw [HV.out]
              clear hdu
              go_wp2_with fail
              go_ret
              exact ⟨rfl, HB12.out⟩
          · have HV := Lib.hid (errV_ne hue)
            rw [HV.out]
            clear hue
            go_wp2_with fail
            go_ret
            exact ⟨rfl, HB11.out⟩
        · have HV := Lib.hid (errV_ne hde)
          rw [HV.out]
          clear hde
          go_wp2_with fail
          go_ret
          exact ⟨rfl, HB10.out⟩
      · have HV := Lib.hid (errV_ne hie)
        rw [HV.out]
        clear hie
        go_wp2_with fail
        go_ret
        exact ⟨rfl, HB9.out⟩
    | true =>
      go_wp2_with fail
      refine HI.out.mono ?_
      rintro e w9 ⟨V9, c9, rfl, hr, hd⟩
      have HB9 := Lib.hid hd.below
      have HD9 := Lib.hid hd
      clear hr hd HI
      generalize (st.insR who off text).length = L at *
      generalize st.insE who off text = ie at *
      obtain ⟨bx, hbx⟩ : ∃ bx, errV ie = bx := ⟨_, rfl⟩
      rw [hbx]
      clear hbx
      have hts : (textOf st.book).size = (textL st.book).length := HS.out
      have hsmall : (textOf st.book).size ≤ 300 := by have h1 := textL_le st.book; have h2 := OK.out.book.few; omega
      by_cases hin : 0 ≤ off ∧ off < ((textOf st.book).size : Int)
      · obtain ⟨o0, o1⟩ := hin
        have n0 : ¬ off < 0 := by omega
        have n1 : ¬ off ≥ ((textOf st.book).size : Int) := by omega
        have q1 : IntKind.i64.wrap (off + 1) = off + 1 := IntWalk.i64_in _ (by omega)
        have HDL := Lib.hid (HD9.out.del who off (off + 1) hw0 hw1 ho0 ho1 (by omega) (by omega))
        have HO1 : Hid (off < ((textL st.book).length : Int)) := by show _ < _; omega
        clear HD9
        go_wp2_with fail
        refine HDL.out.mono ?_
        rintro e w10 ⟨V10, c10, rfl, hr, hd⟩
        have HB10 := Lib.hid hd.below
        have HD10 := Lib.hid hd
        have HR10 := Lib.hid hr
        clear hr hd HDL
        by_cases hde : st.delE who off (off + 1) = 0
        · rw [hde, HE0]
          have HDO := Lib.hid (HD10.out.do_ HR10.out (delR_few OK.out).1 (by have := (delR_few OK.out (who := who) (a := off) (b := off + 1)).2; omega))
          have HIF := Lib.hid (fun h hu => LDoc.back_struck OK.out SAY.out o0 HO1.out hde h hu)
          clear hde HR10 HD10
          generalize (st.delR who off (off + 1)).length = L2 at *
          go_wp2_with fail
          refine HDO.out.mono ?_
          rintro e w11 ⟨rfl, hd⟩
          have HB11 := Lib.hid hd.below
          have HD11 := Lib.hid hd
          clear hd HDO
          by_cases hdo : st.doE (st.delR who off (off + 1)) = 0
          · rw [hdo, HE0]
            have HU := Lib.hid (HD11.out.und who 1 hw0 hw1)
            have OK11 := Lib.hid HD11.out.ok
            have HIF2 := Lib.hid (HIF.out hdo)
            clear hdo HIF HD11
            generalize st.doR (st.delR who off (off + 1)) = d at *
            generalize hL3 : (d.undR who 1).length = L3 at *
            go_wp2_with fail
            refine HU.out.mono ?_
            rintro e w12 ⟨V12, c12, rfl, hr, hd⟩
            have HB12 := Lib.hid hd.below
            have HD12 := Lib.hid hd
            have HR12 := Lib.hid hr
            clear hr hd HU
            by_cases hue : d.undE who 1 = 0
            · rw [hue, HE0]
              obtain ⟨t1, t2⟩ := HIF2.out hue
              have HT2 := Lib.hid t2
              have HDO := Lib.hid (HD12.out.do_ HR12.out (LDoc.undR_few OK11.out who 1).1 (by have := (LDoc.undR_few OK11.out who 1).2; omega))
              clear hue HR12 HD12 hL3 HIF2 t2
              subst t1
              go_wp2_with fail
              refine HDO.out.mono ?_
              rintro e w13 ⟨rfl, hd⟩
              have HB13 := Lib.hid hd.below
              have HD13 := Lib.hid hd
              clear hd HDO
              by_cases hdu : d.doE (d.undR who 1) = 0
              · rw [hdu, HE0]
                have HT := Lib.hid HD13.out.text
                have ht2 : textOf (d.doR (d.undR who 1)).book = textOf st.book := by
                  apply tl_inj
                  rw [LDoc.tx_list, LDoc.tx_list, HT2.out hdu]
                rw [ht2] at HT
                have hX := HRES.out (textOf st.book)
                clear hdu HT2 HD13 ht2
                go_wp2_with fail
                refine HT.out.mono ?_
                rintro e w14 ⟨rfl, hd⟩
                have HB14 := Lib.hid hd.below
                clear hd HT
                go_wp2_with fail
                go_ret
                exact ⟨rfl, HB14.out⟩
              · have HV := Lib.hid (errV_ne hdu)
                rw [HV.out]
                clear hdu
                go_wp2_with fail
                go_ret
                exact ⟨rfl, HB13.out⟩
            · have HV := Lib.hid (errV_ne hue)
              rw [HV.out]
              clear hue hL3
              go_wp2_with fail
              go_ret
              exact ⟨rfl, HB12.out⟩
          · have HV := Lib.hid (errV_ne hdo)
            rw [HV.out]
            clear hdo
            go_wp2_with fail
            go_ret
            exact ⟨rfl, HB11.out⟩
        · have HV := Lib.hid (errV_ne hde)
          rw [HV.out]
          clear hde
          go_wp2_with fail
          go_ret
          exact ⟨rfl, HB10.out⟩
      · by_cases n0 : off < 0
        · clear hin
          go_wp2_with fail
          go_ret
          exact ⟨rfl, HB9.out⟩
        · have n1 : off ≥ ((textOf st.book).size : Int) := by omega
          clear hin
          go_wp2_with fail
          go_ret
          exact ⟨rfl, HB9.out⟩
set_option maxRecDepth 100000 in
theorem lifted (os : Os) (started : os.Started) (H : Type) (enc : TypeId × Value → H) :
    ReturnsInHanded {} Try.checked os 3 .any (Rows.backUndoesSpec.pre6 enc Try.prog Try.f3 Rows.backUndoesRow.domain false) (Rows.backUndoesSpec.post enc Try.prog Try.f3 false true false false) := by
  refine returnsInHanded_of_change (C := Try.checked) Try.own started (by kernel_rfl) Try.func3
    (ChangeSpec.witness6 (enc := enc) (C := Try.checked) false ⟨#[], #[.slice none 0 0, .int .i64 0, .int .i64 0, .string ⟨#[]⟩, .bool false], []⟩ 8 (by kernel_rfl) (by kernel_rfl) (by kernel_rfl) (by kernel_rfl)) ?_
  intro W base args ds gs before hval0 hW _ _
  have hval : ∀ (j : Nat) t v, Try.f3.params[j]? = some t → args[j]? = some v → Value.okWide Try.prog W .any base t v := hval0
  obtain ⟨p, q, hA0, _⟩ := id hW
  have hA : DataW.TrodAll enc Try.prog W 0 (fun _ => true) true Try.f3.params.toList args.toList ds p := hA0
  rw [Try.params3] at hA hval
  obtain ⟨v0, v1, v2, v3, v4, d0, d1, d2, d3, d4, p0, p1, p2, p3, p4, rfl, rfl, rfl, h0, h1, h2, h3, h4⟩ := trodAll_five hA
  obtain ⟨A0, c0, l0, rfl, r0, g0, lc0, cm0⟩ := arg_ops (hval 0 22 v0 rfl rfl) h0
  obtain ⟨a1, rfl, rfl, rfl, wa1⟩ := open_int Try.underlying3 (hval 1 3 v1 rfl rfl) h1
  obtain ⟨a2, rfl, rfl, rfl, wa2⟩ := open_int Try.underlying3 (hval 2 3 v2 rfl rfl) h2
  obtain ⟨a3, rfl, rfl, rfl, wa3⟩ := Go.ChangeMaps.open_string Try.underlying9 (hval 3 9 v3 rfl rfl) h3
  obtain ⟨a4, rfl, rfl, rfl⟩ := open_bool Try.underlying4 (hval 4 4 v4 rfl rfl) h4
  refine (walk W A0 c0 l0 a1 a2 a3 a4 r0 g0 (by unfold maxLen at cm0; omega) (i64_of_wf wa1).1 (i64_of_wf wa1).2 (i64_of_wf wa2).1 (i64_of_wf wa2).2 (by unfold maxLen at wa3; exact wa3)).mono fun e W' ⟨he, hb⟩ => ⟨_, he, ?_⟩
  exact law_post Try.laidOut (tb := 4) (by kernel_rfl) Try.underlying4 (by rw [Try.params3]; simp only [List.mem_cons, List.not_mem_nil, or_false]; rintro t (rfl | rfl | rfl | rfl | rfl) <;> exact ⟨by kernel_rfl, of_decide_eq_true (by kernel_rfl)⟩) rfl rfl hW hb

theorem holds : Rows.BackUndoesSaid :=
  OpenClaim.holds_of_wide 3 Try.f3 rfl rfl rfl rfl rfl rfl rfl ⟨rfl, rfl, rfl, rfl, rfl⟩ rfl rfl rfl rfl rfl (by kernel_rfl) Try.func3 (by kernel_rfl)
    (of_decide_eq_true (by kernel_rfl)) (by unfold Func.isWrapper; first | (rw [if_pos (by decide +kernel)]; kernel_rfl) | (rw [if_neg (by decide +kernel)]; exact ⟨rfl, rfl⟩))
    (fun os started H enc _ => lifted os started H enc)
#print axioms holds
end lawBackUndoes
end Go.Proofs.Ytngalkmmpjegkaa

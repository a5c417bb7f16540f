/- 3 texts in one: each says ahead of itself what is proved, and its conditions. -/
import Derived.Test.YtngalkmmpjegkaaGreatDoorBackInv2
import Derived.Test.YtngalkmmpjegkaaGreatDoorBookAt
import Derived.Test.YtngalkmmpjegkaaGreatDoorDocApply
import Derived.Test.YtngalkmmpjegkaaGreatDoorEditLaw
import Derived.Test.YtngalkmmpjegkaaGreatDoorSame0
/- When what is typed goes, and what may be wrong with it: plain. Conditions: none. -/
namespace Go.Proofs.YtngalkmmpjegkaaGreatDoor
open Go.RowKit
set_option linter.unusedVariables false
theorem typed_goes (who : Int) (right : ByteArray) (hw0 : 1 ≤ who) (hw1 : who ≤ 8) : ∀ (t : List UInt8) (left : ByteArray) (n : Int) (d : LDoc) (a b : List LLeaf), d.Ok → d.book = a ++ b → Gap a b left right → nOf d.known ⟨who, 0⟩ = n → 0 ≤ n → n + t.length ≤ 9999 → d.ops.length + t.length ≤ 400 → d.book.length + t.length ≤ 300 →
    t.any badC = false → TypedOk who right t left → d.doE (typedOps who right t left n) = 0
  | [], left, n, d, a, b => fun hk hb hg hn h0 h1 h2 h3 h4 ht => rfl
  | c :: t, left, n, d, a, b => fun hk hb hg hn h0 h1 h2 h3 h4 ht => by
    obtain ⟨t1, t2⟩ := ht
    have hgood := good_of t1
    rw [List.any_cons, Bool.or_eq_false_iff] at h4
    obtain ⟨h41, h42⟩ := h4
    have hlet : letterB (c.toNat : Int) = true := by unfold badC at h41; simpa using h41
    simp only [List.length_cons] at h1 h2 h3
    rw [typedOps]
    generalize hp : strOf (betweenRes left right who) = p at *
    have hn' : nOf d.known ⟨who, n + 1⟩ = n := (nOf_who _ rfl).trans hn
    have hdot : dotErr ⟨who, n + 1⟩ = 0 := by unfold dotErr; rw [if_pos]; simp only; omega
    have hop : opErr ⟨⟨who, n + 1⟩, 1, p, c.toNat, []⟩ = 0 := by
      unfold opErr
      rw [if_neg (by simp only; omega), if_neg (by simp), if_neg (by have := hgood.check; simp only; omega), if_neg (by rintro ⟨_, h⟩; simp only at h; rw [hlet] at h; cases h), if_neg (by simp), if_neg (by simp), if_neg (by simp)]
      rfl
    obtain ⟨g1, g2⟩ := hg.at_ hgood
    have hr : Rising (a ++ b) := by rw [← hb]; exact hk.book.rising
    have hno := gap_none hr g1 g2
    have hwr : writeErr d.book p c.toNat = 0 := write_zero hk.book hgood.check hlet (.inr (by omega)) (.inl (by rw [hb, no_old hno]))
    have hte : d.turnE ⟨⟨who, n + 1⟩, 1, p, c.toNat, []⟩ = 0 := by unfold LDoc.turnE; rw [if_pos rfl]; exact hwr
    have hh : hasRes d.known ⟨who, n + 1⟩ = false := by
      unfold hasRes
      rw [Bool.and_eq_false_iff]
      exact .inr (decide_eq_false (by rw [hn']; show ¬ (n + 1 ≤ n); omega))
    have ha : addErr d.known ⟨who, n + 1⟩ = 0 := by
      unfold addErr
      have hv := LDoc.vd_zero hk hop
      simp only at hv
      rw [if_neg (by omega), if_neg (by rw [hn']; simp only; omega), if_neg (by rw [hn']; simp only; omega)]
    obtain ⟨q1, q2, q3⟩ := LDoc.apply_good hk hop hh ha (by omega) hte
    have hturn : d.turn ⟨⟨who, n + 1⟩, 1, p, c.toNat, []⟩ = { d with book := a ++ ⟨p, c.toNat, false⟩ :: b } := by
      unfold LDoc.turn
      rw [if_pos rfl, if_pos hwr, write_upd, hb, no_old hno]
      rw [upd_gap hr g1 g2]
      rfl
    have hk2 := LDoc.apply_ok hk ⟨⟨who, n + 1⟩, 1, p, c.toNat, []⟩
    unfold LDoc.doE
    rw [if_neg (by omega)]
    rw [q3, hturn] at hk2 ⊢
    obtain ⟨a1, a2, a3⟩ := add_ok ha
    have hn2 : nOf (addRes d.known ⟨who, n + 1⟩) ⟨who, 0⟩ = n + 1 := by
      rw [nOf_who _ (show (⟨who, 0⟩ : LDot).who = (⟨who, n + 1⟩ : LDot).who from rfl), nOf_add a1 a2 a2, if_pos rfl]
    refine typed_goes who right hw0 hw1 t p (n + 1) _ (a ++ [⟨p, c.toNat, false⟩]) b hk2 (by simp) (hg.next hgood _ _) hn2 (by omega) (by omega) ?_ ?_ h42 t2
    · simp; omega
    · rw [hb] at h3; simp at h3 ⊢; omega
/-- Two between which one may be. -/
def Between (a b : ByteArray) : Prop := (a.size = 0 ∨ placeErr a = 0) ∧ (b.size = 0 ∨ placeErr b = 0) ∧ (a.size ≠ 0 → b.size ≠ 0 → lt a b = true)
theorem between_ready {a b : ByteArray} (h : Between a b) : readyErr a b = 0 := by
  obtain ⟨h1, h2, h3⟩ := h
  unfold readyErr
  rw [if_neg, if_neg, if_neg]
  · rintro ⟨x, y, z⟩
    have := h3 x y
    unfold lt at this
    rw [this] at z; cases z
  · rintro ⟨x, y⟩
    rcases h2 with h | h
    · exact x h
    · exact y h
  · rintro ⟨x, y⟩
    rcases h1 with h | h
    · exact x h
    · exact y h
theorem between_eight {a b : ByteArray} (h : Between a b) {who : Int} (hw0 : 1 ≤ who) (hw1 : who ≤ 8) : betweenErr a b who = 0 ∨ betweenErr a b who = 8 := by
  unfold betweenErr roomErr
  rw [if_neg (by omega), if_neg (by have := between_ready h; omega)]
  split
  · exact .inr rfl
  · exact .inl rfl
theorem typed_eight (right : ByteArray) : ∀ (t : List UInt8) (left : ByteArray) (m : LMk), 1 ≤ m.who → m.who ≤ 8 → Between left right → (LMk.typed right t left m).2 = 0 ∨ (LMk.typed right t left m).2 = 8
  | [], left, m => fun _ _ _ => .inl rfl
  | c :: t, left, m => fun h0 h1 hb => by
    unfold LMk.typed
    by_cases he : betweenErr left right m.who ≠ 0
    · rw [if_pos he]
      rcases between_eight hb h0 h1 with h | h
      · exact absurd h he
      · exact .inr h
    · rw [if_neg he]
      have hgood := good_of (show betweenErr left right m.who = 0 by omega)
      refine typed_eight right t _ _ h0 h1 ⟨.inr hgood.check, hb.2.1, fun _ hr => (good_lt hgood).2 hr⟩
theorem ins_between {l : List LLeaf} (hb : BookOk l) {off : Int} (h0 : 0 ≤ off) (h1 : off ≤ ((textOf l).size : Int)) : Between (leftOf l off) (rightOf l (idxOf l off)) := by
  obtain ⟨g1, g2, g3⟩ := ins_gap hb h0 h1
  have hl : (leftOf l off).size = 0 ∨ ∃ n, ∃ hn : n < l.length, leftOf l off = l[n].place ∧ idxOf l off = n + 1 := by
    by_cases hp : 0 < off
    · obtain ⟨o, rfl⟩ : ∃ o : Nat, off = (o : Int) + 1 := ⟨(off - 1).toNat, by omega⟩
      have hsz : (textOf l).size = (textL l).length := strOf_size _
      obtain ⟨n, hn, e1, e2, e3⟩ := nth_seen l 0 o (by omega)
      have en : (nthFrom 0 l ((o : Int) + 1 - 1)).toNat = n := by rw [show (o : Int) + 1 - 1 = o by omega, e1]; omega
      exact .inr ⟨n, hn, by unfold leftOf; rw [if_pos hp, en]; simp [List.getD, hn], by unfold idxOf; rw [if_pos hp, en]⟩
    · exact .inl (by unfold leftOf; rw [if_neg hp]; rfl)
  have hr : (rightOf l (idxOf l off)).size = 0 ∨ ∃ h : idxOf l off < l.length, rightOf l (idxOf l off) = l[idxOf l off].place := by
    by_cases hi : idxOf l off < l.length
    · exact .inr ⟨hi, by unfold rightOf; rw [if_pos hi]; simp [List.getD, hi]⟩
    · exact .inl (by unfold rightOf; rw [if_neg hi]; rfl)
  refine ⟨?_, ?_, fun x y => ?_⟩
  · rcases hl with h | ⟨n, hn, h, _⟩
    · exact .inl h
    · rw [h]; exact .inr (hb.leafs _ (List.getElem_mem hn)).place
  · rcases hr with h | ⟨hi, h⟩
    · exact .inl h
    · rw [h]; exact .inr (hb.leafs _ (List.getElem_mem hi)).place
  · rcases hl with h | ⟨n, hn, h, hin⟩
    · exact absurd h x
    · rcases hr with h' | ⟨hi, h'⟩
      · exact absurd h' y
      · rw [h, h']
        exact rising_lt hb.rising n _ hn hi (by omega)
namespace LDoc
/-- What may be wrong with an insert. -/
theorem insE_cases {d : LDoc} (hk : d.Ok) (who off : Int) (text : ByteArray) : whoE who ≠ 0 ∧ d.insE who off text = 1 ∨ whoE who = 0 ∧ insErr d.book off text ≠ 0 ∧ d.insE who off text = insErr d.book off text ∨
    whoE who = 0 ∧ insErr d.book off text = 0 ∧ (d.insE who off text = 0 ∨ d.insE who off text = 8) := by
  by_cases hw : whoE who = 0
  · by_cases hi : insErr d.book off text = 0
    · refine .inr (.inr ⟨hw, hi, ?_⟩)
      obtain ⟨i1, i2, i3, i4⟩ := insErr_zero hi
      obtain ⟨_, w0, w1⟩ := who_dot hw
      unfold insE LMk.ins
      rw [if_neg (by omega), if_neg (by omega)]
      exact typed_eight _ _ _ _ w0 w1 (ins_between hk.book i3 i4)
    · refine .inr (.inl ⟨hw, hi, ?_⟩)
      unfold insE LMk.ins
      rw [if_neg (by omega), if_pos hi]
  · exact .inl ⟨hw, if_pos hw⟩
/-- What is typed goes, where there is room. -/
theorem ins_goes {d : LDoc} (hk : d.Ok) {who off : Int} {text : ByteArray} (h : d.insE who off text = 0) (h1 : nOf d.known ⟨who, 0⟩ + text.size ≤ 9999) (h0 : 0 ≤ nOf d.known ⟨who, 0⟩) (h2 : d.ops.length + text.size ≤ 400) (h3 : d.book.length + text.size ≤ 300) : d.doE (d.insR who off text) = 0 := by
  obtain ⟨a1, a2, a3, a4⟩ := ins_ok h
  obtain ⟨i1, i2, i3, i4⟩ := insErr_zero a2
  obtain ⟨_, w0, w1⟩ := who_dot a1
  obtain ⟨g1, g2, g3⟩ := ins_gap hk.book i3 i4
  rw [a3]
  exact typed_goes who _ w0 w1 _ _ _ d _ _ hk (List.take_append_drop _ _).symm g3 rfl h0 (by rw [toList_len]; omega) (by rw [toList_len]; omega) (by rw [toList_len]; omega) i2 a4
end LDoc
end Go.Proofs.YtngalkmmpjegkaaGreatDoor
/- A text typed at once, or letter by letter: plain. Conditions: none. -/
namespace Go.Proofs.YtngalkmmpjegkaaGreatDoor
open Go.RowKit
set_option linter.unusedVariables false
namespace LDoc
/-- What stands in a document in which one author typed letter by letter. -/
structure Typing (who : Int) (t : List UInt8) (st : LDoc) : Prop where
  ok : st.Ok
  text : textL st.book = t
  n : nOf st.known ⟨who, 0⟩ = (t.length : Int)
  ops : st.ops.length = t.length
  book : st.book.length = t.length
theorem Typing.new {who : Int} (h : whoE who = 0) : Typing who [] LDoc.new := by
  refine ⟨new_ok, rfl, ?_, rfl, rfl⟩
  obtain ⟨h1, _⟩ := who_dot h
  have := Says.new.known _ h1
  rw [nOf_who _ (show (⟨who, 0⟩ : LDot).who = (⟨who, 1⟩ : LDot).who from rfl), this]
  rfl
theorem tx_list {l : List LLeaf} : (textOf l).toList = textL l := by
  rw [toList_data]; rfl
theorem tx_size (l : List LLeaf) : (textOf l).size = (textL l).length := strOf_size _
/-- One more insert, that has gone. -/
theorem Typing.step {who : Int} {t : List UInt8} {st : LDoc} (h : Typing who t st) {off : Int} {text : ByteArray} (hi : st.insE who off text = 0) (hf : t.length + text.size ≤ 300) :
    st.doE (st.insR who off text) = 0 ∧ 0 ≤ off ∧ off ≤ (t.length : Int) ∧ Typing who (t.take off.toNat ++ text.toList ++ t.drop off.toNat) (st.doR (st.insR who off text)) := by
  obtain ⟨a1, a2, a3, a4⟩ := ins_ok hi
  obtain ⟨i1, i2, i3, i4⟩ := insErr_zero a2
  rw [tx_size, h.text] at i4
  have hd := ins_goes h.ok hi (by rw [h.n]; omega) (by rw [h.n]; omega) (by rw [h.ops]; omega) (by rw [h.book]; omega)
  obtain ⟨a, b, e1, e2, e3, e4, e5, e6, e7, e8, e9⟩ := ins_does h.ok hi hd
  have hk2 := doR_ok (st.insR who off text) h.ok
  have hlen : (st.insR who off text).length = text.size := by rw [a3, typedOps_len, toList_len]
  have htab : textL a ++ textL b = t := by
    rw [← h.text, e1]
    unfold textL
    rw [List.filter_append, List.map_append]
  have hta : textL a = t.take off.toNat := by
    rw [← htab, List.take_left' (by omega)]
  have htb : textL b = t.drop off.toNat := by
    rw [← htab, List.drop_left' (by omega)]
  refine ⟨hd, i3, i4, hk2, ?_, ?_, ?_, ?_⟩
  · rw [e3]
    have : textL (a ++ (st.insR who off text).map leafOf ++ b) = textL a ++ textL ((st.insR who off text).map leafOf) ++ textL b := by
      unfold textL
      rw [List.filter_append, List.filter_append, List.map_append, List.map_append]
    rw [this, e4, hta, htb]
  · obtain ⟨g1, g2, g3⟩ := ins_gap h.ok.book i3 (by rw [tx_size, h.text]; exact i4)
    obtain ⟨w1, w2, w3⟩ := who_dot a1
    have h4 := a4
    rw [a3] at hd ⊢
    obtain ⟨r1, r2, r3, r4, r5⟩ := typed_do who _ text.toList _ _ st _ _ h.ok (List.take_append_drop _ _).symm g3 rfl h4 hd
    rw [r5, h.n]
    simp only [List.length_append, List.length_take, List.length_drop]
    omega
  · rw [e7, List.length_append, hlen, h.ops]
    simp only [List.length_append, List.length_take, List.length_drop, toList_len]
    omega
  · have := congrArg List.length e1
    rw [List.length_append] at this
    rw [e3]
    simp only [List.length_append, List.length_map, List.length_take, List.length_drop, toList_len, hlen]
    rw [h.book] at this
    omega
/-- Why an insert into a document is refused, where the offset is right. -/
theorem ins_why {st : LDoc} (hk : st.Ok) {who off : Int} {text : ByteArray} (hw : whoE who = 0) (hb : text.toList.any badC = false) (hs : text.size ≤ 200) (h0 : 0 ≤ off) (h1 : off ≤ ((textOf st.book).size : Int)) : st.insE who off text = 0 ∨ st.insE who off text = 8 := by
  rcases insE_cases hk who off text with ⟨c1, _⟩ | ⟨_, c2, _⟩ | ⟨_, _, c3⟩
  · exact absurd hw c1
  · refine absurd ?_ c2
    unfold insErr
    rw [if_neg (by omega), if_neg (by rw [hb]; decide), if_neg (by omega)]
  · exact c3
theorem ins_far {st : LDoc} (hk : st.Ok) {who off : Int} {text : ByteArray} (hw : whoE who = 0) (hb : text.toList.any badC = false) (hs : text.size ≤ 200) (h : off < 0 ∨ ((textOf st.book).size : Int) < off) : st.insE who off text = 1 := by
  have hi : insErr st.book off text = 1 := by
    unfold insErr
    rw [if_neg (by omega), if_neg (by rw [hb]; decide), if_pos h]
  rcases insE_cases hk who off text with ⟨c1, _⟩ | ⟨_, _, c2⟩ | ⟨_, c2, _⟩
  · exact absurd hw c1
  · rw [c2, hi]
  · omega
end LDoc
end Go.Proofs.YtngalkmmpjegkaaGreatDoor
/- What is taken back, done: the undoer's ops make the undoer's book. Plain. Conditions: none. -/
namespace Go.Proofs.YtngalkmmpjegkaaGreatDoor
open Go.RowKit
set_option linter.unusedVariables false
namespace LDoc
theorem doE_app : ∀ (l t : List LOp) (d : LDoc), d.doE (l ++ t) = if d.doE l ≠ 0 then d.doE l else (d.doR l).doE t
  | [], t, d => rfl
  | o :: l, t, d => by
    show (if d.applyE o ≠ 0 then d.applyE o else (d.apply o).doE (l ++ t)) = if (if d.applyE o ≠ 0 then d.applyE o else (d.apply o).doE l) ≠ 0 then (if d.applyE o ≠ 0 then d.applyE o else (d.apply o).doE l) else (if d.applyE o ≠ 0 then d else (d.apply o).doR l).doE t
    by_cases h : d.applyE o ≠ 0
    · simp only [if_pos h]
    · simp only [if_neg h]
      exact doE_app l t _
theorem doR_app : ∀ (l t : List LOp) (d : LDoc), d.doE l = 0 → d.doR (l ++ t) = (d.doR l).doR t
  | [], t, d => fun _ => rfl
  | o :: l, t, d => fun hd => by
    show (if d.applyE o ≠ 0 then d else (d.apply o).doR (l ++ t)) = (if d.applyE o ≠ 0 then d else (d.apply o).doR l).doR t
    unfold doE at hd
    by_cases h : d.applyE o ≠ 0
    · rw [if_pos h] at hd; exact absurd hd h
    · rw [if_neg h] at hd
      simp only [if_neg h]
      exact doR_app l t _ hd
/-- An op of one's own that is the next one goes. -/
theorem next_goes {d : LDoc} (hk : d.Ok) {o : LOp} {n : Int} (hop : opErr o = 0) (hn : nOf d.known o.dot = n) (hd : o.dot.n = n + 1) (hl : d.ops.length < 400) (ht : d.turnE o = 0) : d.applyE o = 0 := by
  have hh : hasRes d.known o.dot = false := by
    unfold hasRes
    rw [Bool.and_eq_false_iff]
    exact .inr (decide_eq_false (by omega))
  have ha : addErr d.known o.dot = 0 := by
    unfold addErr
    have hv := LDoc.vd_zero hk hop
    rw [if_neg (by omega), if_neg (by omega), if_neg (by omega)]
  exact (LDoc.apply_good hk hop hh ha (by omega) ht).1
/-- What the undoer has, and the document when its ops are done. -/
structure Track (d : LDoc) (U : LU) : Prop where
  ok : BookOk U.book
  who : whoE U.mak.who = 0
  n0 : 0 ≤ U.mak.n
  does : d.doE U.mak.ops = 0 → (d.doR U.mak.ops).book = U.book ∧ nOf (d.doR U.mak.ops).known ⟨U.mak.who, 0⟩ = U.mak.n ∧ (d.doR U.mak.ops).ops.length = d.ops.length + U.mak.ops.length
  goes : d.ops.length + U.mak.ops.length ≤ 400 → U.mak.n ≤ 9999 → d.doE U.mak.ops = 0
theorem Track.start {d : LDoc} (hk : d.Ok) {who : Int} (hw : whoE who = 0) : Track d ⟨d.book, d.maker who⟩ := by
  refine ⟨hk.book, hw, ?_, fun _ => ⟨rfl, rfl, rfl⟩, fun _ _ => rfl⟩
  obtain ⟨k, hk2, _, e1, e2, _⟩ := nOf_known hk.known hw
  show 0 ≤ nOf d.known ⟨who, 0⟩
  rw [← e1]; exact e2
theorem Track.add {d : LDoc} {U : LU} (hk : d.Ok) (h : Track d U) {o : LOp} {bk : List LLeaf} (hob : BookOk bk) (hop : U.mak.n ≤ 9998 → opErr (U.mak.put o) = 0)
    (hte : ∀ e : LDoc, e.book = U.book → e.turnE (U.mak.put o) = 0) (htb : ∀ e : LDoc, e.book = U.book → (e.turn (U.mak.put o)).book = bk) : Track d ⟨bk, U.mak.add o⟩ := by
  have hn0 := h.n0
  refine ⟨hob, h.who, ?_, fun hd => ?_, fun hl hn => ?_⟩
  · show 0 ≤ U.mak.n + 1; omega
  · replace hd : d.doE (U.mak.ops ++ [U.mak.put o]) = 0 := hd
    rw [doE_app] at hd
    by_cases h0 : d.doE U.mak.ops ≠ 0
    · rw [if_pos h0] at hd; exact absurd hd h0
    rw [if_neg h0] at hd
    obtain ⟨b1, b2, b3⟩ := h.does (by omega)
    have eok := doR_ok U.mak.ops hk
    have hz : d.doE U.mak.ops = 0 := by omega
    show (d.doR (U.mak.ops ++ [U.mak.put o])).book = bk ∧ nOf (d.doR (U.mak.ops ++ [U.mak.put o])).known ⟨U.mak.who, 0⟩ = U.mak.n + 1 ∧ (d.doR (U.mak.ops ++ [U.mak.put o])).ops.length = d.ops.length + (U.mak.ops ++ [U.mak.put o]).length
    rw [doR_app _ _ _ hz]
    generalize he : d.doR U.mak.ops = e at *
    unfold doE at hd
    by_cases h1 : e.applyE (U.mak.put o) ≠ 0
    · rw [if_pos h1] at hd; exact absurd hd h1
    have hn' : nOf e.known (U.mak.put o).dot = U.mak.n := (nOf_who _ rfl).trans b2
    obtain ⟨q1, q2, q3, q4, q5⟩ := LDoc.apply_new eok (o := U.mak.put o) (by omega) (by rw [hn']; show U.mak.n < U.mak.n + 1; omega)
    obtain ⟨a1, a2, a3⟩ := add_ok q3
    unfold doR doR
    rw [if_neg h1, q5]
    refine ⟨htb e b1, ?_, ?_⟩
    · show nOf (addRes e.known (U.mak.put o).dot) ⟨U.mak.who, 0⟩ = _
      rw [nOf_who _ (show (⟨U.mak.who, 0⟩ : LDot).who = (U.mak.put o).dot.who from rfl), nOf_add a1 a2 a2, if_pos rfl]
      rfl
    · simp; omega
  · replace hl : d.ops.length + (U.mak.ops ++ [U.mak.put o]).length ≤ 400 := hl
    replace hn : U.mak.n + 1 ≤ 9999 := hn
    simp only [List.length_append, List.length_cons, List.length_nil] at hl
    have hz := h.goes (by omega) (by omega)
    obtain ⟨b1, b2, b3⟩ := h.does hz
    have eok := doR_ok U.mak.ops hk
    show d.doE (U.mak.ops ++ [U.mak.put o]) = 0
    rw [doE_app, if_neg (by omega)]
    generalize he : d.doR U.mak.ops = e at *
    have hn' : nOf e.known (U.mak.put o).dot = U.mak.n := (nOf_who _ rfl).trans b2
    have hg := next_goes eok (o := U.mak.put o) (hop (by omega)) hn' rfl (by omega) (hte e b1)
    unfold doE
    rw [if_neg (by omega)]
    rfl
theorem dot_put {who n : Int} (hw : whoE who = 0) (h0 : 0 ≤ n) (h1 : n ≤ 9998) : dotErr ⟨who, n + 1⟩ = 0 := by
  obtain ⟨_, w1, w2⟩ := who_dot hw
  unfold dotErr; rw [if_pos]; simp only; omega
theorem Track.strike {d : LDoc} {U : LU} (hk : d.Ok) (h : Track d U) {p : ByteArray} (hp : hasAt U.book p = true) : Track d ⟨strikeRes U.book p, U.mak.st p⟩ := by
  have hpe := at_place h.ok hp
  have hse := strike_zero h.ok hpe (.inl hp)
  refine h.add hk (strike_book hse) (fun hn => ?_) (fun e he => ?_) (fun e he => ?_)
  · have hd := dot_put h.who h.n0 hn
    unfold LMk.put opErr
    rw [if_neg (by simp only; omega), if_neg (by simp), if_neg (by simp only; omega), if_neg (by simp), if_neg (by simp), if_neg (by simp), if_neg (by simp)]
    rfl
  · unfold turnE LMk.put
    rw [if_neg (by simp), if_pos rfl, he]
    exact hse
  · unfold turn LMk.put
    rw [if_neg (by simp), if_pos rfl, he, if_pos hse]
theorem Track.write {d : LDoc} {U : LU} (hk : d.Ok) (h : Track d U) {p : ByteArray} {c : Int} (hw : writeErr U.book p c = 0) : Track d ⟨writeRes U.book p c, U.mak.wr p c⟩ := by
  obtain ⟨_, hpe, hc, _⟩ := write_ok hw
  refine h.add hk (write_book hw) (fun hn => ?_) (fun e he => ?_) (fun e he => ?_)
  · have hd := dot_put h.who h.n0 hn
    unfold LMk.put opErr
    rw [if_neg (by simp only; omega), if_neg (by simp), if_neg (by simp only; omega), if_neg (by rintro ⟨_, h⟩; simp only at h; rw [hc] at h; cases h), if_neg (by simp), if_neg (by simp), if_neg (by simp)]
    rfl
  · unfold turnE LMk.put
    rw [if_pos rfl, he]
    exact hw
  · unfold turn LMk.put
    rw [if_pos rfl, he, if_pos hw]
theorem Track.new {d : LDoc} {U : LU} (hk : d.Ok) (h : Track d U) {p : ByteArray} (he : (unNew U p).2 = 0) : Track d (unNew U p).1 := by
  unfold unNew at he ⊢
  split at he
  · next hb => exact absurd he hb
  · next hb =>
    rw [if_neg hb]
    dsimp only at he ⊢
    rw [if_pos he]
    exact h.write hk he
theorem Track.one {d : LDoc} {U : LU} (hk : d.Ok) (h : Track d U) (d' : LDoc) (o : LOp) (he : (unOne d' U o).2.2 = 0) : Track d (unOne d' U o).1 := by
  unfold unOne at he ⊢
  split at he
  · next h0 => rw [if_pos h0]; exact h
  · next h0 =>
    rw [if_neg h0]
    have hp : hasAt U.book o.place = true := by
      cases e : hasAt U.book o.place with
      | true => rfl
      | false => exact absurd (.inl e) h0
    split at he
    · next h1 => rw [if_pos h1]; exact h.strike hk hp
    · next h1 =>
      rw [if_neg h1]
      split at he
      · next h2 => rw [if_pos h2]; exact h.new hk he
      · next h2 => rw [if_neg h2]; exact h
theorem Track.go {d : LDoc} (hk : d.Ok) (d' : LDoc) : ∀ (l : List LOp) (n : Int) (U : LU), Track d U → (unGo d' l n U).2 = 0 → Track d (unGo d' l n U).1
  | [], n, U => fun h _ => h
  | o :: t, n, U => fun h he => by
    unfold unGo at he ⊢
    split at he
    · next h0 => rw [if_pos h0]; exact h
    · next h0 =>
      rw [if_neg h0]
      split at he
      · next h1 => rw [if_pos h1]; exact Track.go hk d' t n U h he
      · next h1 =>
        rw [if_neg h1]
        split at he
        · next h2 => exact absurd he h2
        · next h2 =>
          rw [if_neg h2]
          exact Track.go hk d' t _ _ (h.one hk d' o (by omega)) he
/-- What is taken back, done: the book is the undoer's. -/
theorem und_does {d : LDoc} (hk : d.Ok) {who n : Int} (hw : whoE who = 0) (hn : ¬ (n < 0 ∨ 200 < n)) (he : d.undE who n = 0) :
    d.undR who n = (unGo d d.ops.reverse n ⟨d.book, d.maker who⟩).1.mak.ops ∧ Track d (unGo d d.ops.reverse n ⟨d.book, d.maker who⟩).1 := by
  refine ⟨by unfold undR; rw [if_pos he], ?_⟩
  unfold undE at he
  rw [if_neg (by omega), if_neg hn] at he
  exact Track.go hk d _ n _ (Track.start hk hw) he
end LDoc
theorem stAll_ops : ∀ (ps : List ByteArray) (m : LMk), (m.stAll ps).ops.length = m.ops.length + ps.length ∧ (m.stAll ps).n = m.n + ps.length
  | [], m => by simp [LMk.stAll]
  | p :: ps, m => by
    obtain ⟨h1, h2⟩ := stAll_ops ps (m.st p)
    show ((m.st p).stAll ps).ops.length = _ ∧ ((m.st p).stAll ps).n = _
    rw [h1, h2]
    simp [LMk.st, LMk.add]
    omega
theorem textL_gone (l : List LLeaf) (h : ∀ x ∈ l, x.struck = true) : textL l = [] := by
  unfold textL
  rw [List.filter_eq_nil_iff.2 (fun x hx => by unfold seenB; rw [h x hx]; simp)]
  rfl
theorem textL_two (a b : List LLeaf) : textL (a ++ b) = textL a ++ textL b := by
  unfold textL
  rw [List.filter_append, List.map_append]
theorem textL_three (a b c : List LLeaf) : textL (a ++ b ++ c) = textL a ++ textL b ++ textL c := by
  unfold textL
  rw [List.filter_append, List.filter_append, List.map_append, List.map_append]
/-- The last ones of what one has typed, taken back, when it is done. -/
theorem back_typed {d : LDoc} (hk : d.Ok) {a c : List LLeaf} {Y R : List LOp} (hb : d.book = a ++ Y.map leafOf ++ c) (ho : d.ops = R ++ Y) {who : Int} (hw : LDoc.whoE who = 0) (hY : ∀ o ∈ Y, o.dot.who = who ∧ o.what = 1 ∧ letterB o.letter = true)
    {k r : Nat} (hkl : k ≤ Y.length) (hr : r = 0 ∨ (k = Y.length ∧ R = [])) (hn : k + r ≤ 200) :
    d.undE who ((k + r : Nat) : Int) = 0 ∧ (d.undR who ((k + r : Nat) : Int)).length = k ∧
      (d.ops.length + k ≤ 400 → nOf d.known ⟨who, 0⟩ + k ≤ 9999 → d.doE (d.undR who ((k + r : Nat) : Int)) = 0) ∧
      (d.doE (d.undR who ((k + r : Nat) : Int)) = 0 → textL (d.doR (d.undR who ((k + r : Nat) : Int))).book = textL a ++ textL ((Y.take (Y.length - k)).map leafOf) ++ textL c) := by
  have hmw : (d.maker who).who = who := rfl
  have hri : Rising (a ++ Y.map leafOf ++ [] ++ c) := by rw [List.append_nil, ← hb]; exact hk.book.rising
  have hgo := LDoc.unGo_typed d a c k Y [] R.reverse r (d.maker who) hkl (fun o h => by rw [hmw]; exact hY o h) hri
  rw [List.append_nil, ← hb] at hgo
  have hrev : Y.reverse ++ R.reverse = d.ops.reverse := by rw [ho, List.reverse_append]
  rw [hrev] at hgo
  generalize hU : (⟨a ++ (Y.take (Y.length - k)).map leafOf ++ ((Y.drop (Y.length - k)).map (fun o => (leafOf o).gone) ++ []) ++ c, (d.maker who).stAll ((Y.drop (Y.length - k)).map LOp.place).reverse⟩ : LU) = U at hgo
  have hend : LDoc.unGo d ((Y.take (Y.length - k)).reverse ++ R.reverse) (r : Int) U = (U, 0) := by
    rcases hr with rfl | ⟨rfl, rfl⟩
    · cases (Y.take (Y.length - k)).reverse ++ R.reverse with
      | nil => rfl
      | cons o t => rw [LDoc.unGo, if_pos (by simp)]
    · simp [LDoc.unGo]
  rw [hend] at hgo
  have hnn : ¬ (((k + r : Nat) : Int) < 0 ∨ 200 < ((k + r : Nat) : Int)) := by omega
  have hE : d.undE who ((k + r : Nat) : Int) = 0 := by
    unfold LDoc.undE
    rw [if_neg (by omega), if_neg hnn, hgo]
  obtain ⟨hR, hT⟩ := LDoc.und_does hk hw hnn hE
  rw [hgo] at hR hT
  dsimp only at hR hT
  obtain ⟨s1, s2⟩ := stAll_ops ((Y.drop (Y.length - k)).map LOp.place).reverse (d.maker who)
  have hUm : U.mak = (d.maker who).stAll ((Y.drop (Y.length - k)).map LOp.place).reverse := by rw [← hU]
  rw [← hUm] at s1 s2
  have hlen : U.mak.ops.length = k := by
    rw [s1]
    show 0 + _ = k
    simp; omega
  have hnU : U.mak.n = nOf d.known ⟨who, 0⟩ + k := by
    rw [s2]
    show nOf d.known ⟨who, 0⟩ + _ = _
    simp; omega
  refine ⟨hE, by rw [hR, hlen], fun h1 h2 => ?_, fun h1 => ?_⟩
  · rw [hR]
    exact hT.goes (by omega) (by omega)
  · rw [hR] at h1 ⊢
    obtain ⟨b1, _, _⟩ := hT.does h1
    rw [b1, ← hU]
    dsimp only
    rw [List.append_nil, textL_three, textL_two, textL_gone ((Y.drop (Y.length - k)).map (fun o => (leafOf o).gone)) (fun x hx => by
      obtain ⟨o, _, rfl⟩ := List.mem_map.1 hx
      rfl)]
    simp
end Go.Proofs.YtngalkmmpjegkaaGreatDoor

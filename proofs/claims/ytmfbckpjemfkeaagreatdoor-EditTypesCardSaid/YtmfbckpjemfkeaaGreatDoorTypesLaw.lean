/- 2 texts in one: each says ahead of itself what is proved, and its conditions. -/
import Derived.Test.YtmfbckpjemfkeaaGreatDoorApartLaw
import Derived.Test.YtmfbckpjemfkeaaGreatDoorBookAt
import Derived.Test.YtmfbckpjemfkeaaGreatDoorDocApply
import Derived.Test.YtmfbckpjemfkeaaGreatDoorEditLaw
/- When what is typed goes, and what may be wrong with it: plain. Conditions: none. -/
namespace Go.Proofs.YtmfbckpjemfkeaaGreatDoor
open Go.RowKit
set_option linter.unusedVariables false
theorem typed_goes (who : Int) (right : ByteArray) (hw0 : 1 ≤ who) (hw1 : who ≤ 8) : ∀ (t : List UInt8) (left : ByteArray) (n : Int) (d : LDoc) (a b : List LLeaf), d.Ok → d.book = a ++ b → Gap a b left right → nOf d.known ⟨who, 0⟩ = n → 0 ≤ n → n + t.length ≤ 9999 → d.ops.length + t.length ≤ 400 → d.book.length + t.length ≤ 300 →
    t.any badC = false → TypedOk who right t left → d.doE (typedOps who right t left n) = 0
  | [], left, n, d, a, b => fun hk hb hg hn h0 h1 h2 h3 h4 ht => rfl
  | c :: t, left, n, d, a, b => fun hk hb hg hn h0 h1 h2 h3 h4 ht => by
    obtain ⟨t1, t2⟩ := ht
    have hgood := good_of t1
    rw [List.any_cons, Bool.or_eq_false_iff] at h4
    obtain ⟨h41, h42⟩ := h4
    have hlet : letterB (c.toNat : Int) = true := by unfold badC at h41; simpa using h41
    simp only [List.length_cons] at h1 h2 h3
    rw [typedOps]
    generalize hp : strOf (betweenRes left right who) = p at *
    have hn' : nOf d.known ⟨who, n + 1⟩ = n := (nOf_who _ rfl).trans hn
    have hdot : dotErr ⟨who, n + 1⟩ = 0 := by unfold dotErr; rw [if_pos]; simp only; omega
    have hop : opErr ⟨⟨who, n + 1⟩, 1, p, c.toNat, []⟩ = 0 := by
      unfold opErr
      rw [if_neg (by simp only; omega), if_neg (by simp), if_neg (by have := hgood.check; simp only; omega), if_neg (by rintro ⟨_, h⟩; simp only at h; rw [hlet] at h; cases h), if_neg (by simp), if_neg (by simp), if_neg (by simp)]
      rfl
    obtain ⟨g1, g2⟩ := hg.at_ hgood
    have hr : Rising (a ++ b) := by rw [← hb]; exact hk.book.rising
    have hno := gap_none hr g1 g2
    have hwr : writeErr d.book p c.toNat = 0 := write_zero hk.book hgood.check hlet (.inr (by omega)) (.inl (by rw [hb, no_old hno]))
    have hte : d.turnE ⟨⟨who, n + 1⟩, 1, p, c.toNat, []⟩ = 0 := by unfold LDoc.turnE; rw [if_pos rfl]; exact hwr
    have hh : hasRes d.known ⟨who, n + 1⟩ = false := by
      unfold hasRes
      rw [Bool.and_eq_false_iff]
      exact .inr (decide_eq_false (by rw [hn']; show ¬ (n + 1 ≤ n); omega))
    have ha : addErr d.known ⟨who, n + 1⟩ = 0 := by
      unfold addErr
      have hv := LDoc.vd_zero hk hop
      simp only at hv
      rw [if_neg (by omega), if_neg (by rw [hn']; simp only; omega), if_neg (by rw [hn']; simp only; omega)]
    obtain ⟨q1, q2, q3⟩ := LDoc.apply_good hk hop hh ha (by omega) hte
    have hturn : d.turn ⟨⟨who, n + 1⟩, 1, p, c.toNat, []⟩ = { d with book := a ++ ⟨p, c.toNat, false⟩ :: b } := by
      unfold LDoc.turn
      rw [if_pos rfl, if_pos hwr, write_upd, hb, no_old hno]
      rw [upd_gap hr g1 g2]
      rfl
    have hk2 := LDoc.apply_ok hk ⟨⟨who, n + 1⟩, 1, p, c.toNat, []⟩
    unfold LDoc.doE
    rw [if_neg (by omega)]
    rw [q3, hturn] at hk2 ⊢
    obtain ⟨a1, a2, a3⟩ := add_ok ha
    have hn2 : nOf (addRes d.known ⟨who, n + 1⟩) ⟨who, 0⟩ = n + 1 := by
      rw [nOf_who _ (show (⟨who, 0⟩ : LDot).who = (⟨who, n + 1⟩ : LDot).who from rfl), nOf_add a1 a2 a2, if_pos rfl]
    refine typed_goes who right hw0 hw1 t p (n + 1) _ (a ++ [⟨p, c.toNat, false⟩]) b hk2 (by simp) (hg.next hgood _ _) hn2 (by omega) (by omega) ?_ ?_ h42 t2
    · simp; omega
    · rw [hb] at h3; simp at h3 ⊢; omega
/-- Two between which one may be. -/
def Between (a b : ByteArray) : Prop := (a.size = 0 ∨ placeErr a = 0) ∧ (b.size = 0 ∨ placeErr b = 0) ∧ (a.size ≠ 0 → b.size ≠ 0 → lt a b = true)
theorem between_ready {a b : ByteArray} (h : Between a b) : readyErr a b = 0 := by
  obtain ⟨h1, h2, h3⟩ := h
  unfold readyErr
  rw [if_neg, if_neg, if_neg]
  · rintro ⟨x, y, z⟩
    have := h3 x y
    unfold lt at this
    rw [this] at z; cases z
  · rintro ⟨x, y⟩
    rcases h2 with h | h
    · exact x h
    · exact y h
  · rintro ⟨x, y⟩
    rcases h1 with h | h
    · exact x h
    · exact y h
theorem between_eight {a b : ByteArray} (h : Between a b) {who : Int} (hw0 : 1 ≤ who) (hw1 : who ≤ 8) : betweenErr a b who = 0 ∨ betweenErr a b who = 8 := by
  unfold betweenErr roomErr
  rw [if_neg (by omega), if_neg (by have := between_ready h; omega)]
  split
  · exact .inr rfl
  · exact .inl rfl
theorem typed_eight (right : ByteArray) : ∀ (t : List UInt8) (left : ByteArray) (m : LMk), 1 ≤ m.who → m.who ≤ 8 → Between left right → (LMk.typed right t left m).2 = 0 ∨ (LMk.typed right t left m).2 = 8
  | [], left, m => fun _ _ _ => .inl rfl
  | c :: t, left, m => fun h0 h1 hb => by
    unfold LMk.typed
    by_cases he : betweenErr left right m.who ≠ 0
    · rw [if_pos he]
      rcases between_eight hb h0 h1 with h | h
      · exact absurd h he
      · exact .inr h
    · rw [if_neg he]
      have hgood := good_of (show betweenErr left right m.who = 0 by omega)
      refine typed_eight right t _ _ h0 h1 ⟨.inr hgood.check, hb.2.1, fun _ hr => (good_lt hgood).2 hr⟩
theorem ins_between {l : List LLeaf} (hb : BookOk l) {off : Int} (h0 : 0 ≤ off) (h1 : off ≤ ((textOf l).size : Int)) : Between (leftOf l off) (rightOf l (idxOf l off)) := by
  obtain ⟨g1, g2, g3⟩ := ins_gap hb h0 h1
  have hl : (leftOf l off).size = 0 ∨ ∃ n, ∃ hn : n < l.length, leftOf l off = l[n].place ∧ idxOf l off = n + 1 := by
    by_cases hp : 0 < off
    · obtain ⟨o, rfl⟩ : ∃ o : Nat, off = (o : Int) + 1 := ⟨(off - 1).toNat, by omega⟩
      have hsz : (textOf l).size = (textL l).length := strOf_size _
      obtain ⟨n, hn, e1, e2, e3⟩ := nth_seen l 0 o (by omega)
      have en : (nthFrom 0 l ((o : Int) + 1 - 1)).toNat = n := by rw [show (o : Int) + 1 - 1 = o by omega, e1]; omega
      exact .inr ⟨n, hn, by unfold leftOf; rw [if_pos hp, en]; simp [List.getD, hn], by unfold idxOf; rw [if_pos hp, en]⟩
    · exact .inl (by unfold leftOf; rw [if_neg hp]; rfl)
  have hr : (rightOf l (idxOf l off)).size = 0 ∨ ∃ h : idxOf l off < l.length, rightOf l (idxOf l off) = l[idxOf l off].place := by
    by_cases hi : idxOf l off < l.length
    · exact .inr ⟨hi, by unfold rightOf; rw [if_pos hi]; simp [List.getD, hi]⟩
    · exact .inl (by unfold rightOf; rw [if_neg hi]; rfl)
  refine ⟨?_, ?_, fun x y => ?_⟩
  · rcases hl with h | ⟨n, hn, h, _⟩
    · exact .inl h
    · rw [h]; exact .inr (hb.leafs _ (List.getElem_mem hn)).place
  · rcases hr with h | ⟨hi, h⟩
    · exact .inl h
    · rw [h]; exact .inr (hb.leafs _ (List.getElem_mem hi)).place
  · rcases hl with h | ⟨n, hn, h, hin⟩
    · exact absurd h x
    · rcases hr with h' | ⟨hi, h'⟩
      · exact absurd h' y
      · rw [h, h']
        exact rising_lt hb.rising n _ hn hi (by omega)
namespace LDoc
/-- What may be wrong with an insert. -/
theorem insE_cases {d : LDoc} (hk : d.Ok) (who off : Int) (text : ByteArray) : whoE who ≠ 0 ∧ d.insE who off text = 1 ∨ whoE who = 0 ∧ insErr d.book off text ≠ 0 ∧ d.insE who off text = insErr d.book off text ∨
    whoE who = 0 ∧ insErr d.book off text = 0 ∧ (d.insE who off text = 0 ∨ d.insE who off text = 8) := by
  by_cases hw : whoE who = 0
  · by_cases hi : insErr d.book off text = 0
    · refine .inr (.inr ⟨hw, hi, ?_⟩)
      obtain ⟨i1, i2, i3, i4⟩ := insErr_zero hi
      obtain ⟨_, w0, w1⟩ := who_dot hw
      unfold insE LMk.ins
      rw [if_neg (by omega), if_neg (by omega)]
      exact typed_eight _ _ _ _ w0 w1 (ins_between hk.book i3 i4)
    · refine .inr (.inl ⟨hw, hi, ?_⟩)
      unfold insE LMk.ins
      rw [if_neg (by omega), if_pos hi]
  · exact .inl ⟨hw, if_pos hw⟩
/-- What is typed goes, where there is room. -/
theorem ins_goes {d : LDoc} (hk : d.Ok) {who off : Int} {text : ByteArray} (h : d.insE who off text = 0) (h1 : nOf d.known ⟨who, 0⟩ + text.size ≤ 9999) (h0 : 0 ≤ nOf d.known ⟨who, 0⟩) (h2 : d.ops.length + text.size ≤ 400) (h3 : d.book.length + text.size ≤ 300) : d.doE (d.insR who off text) = 0 := by
  obtain ⟨a1, a2, a3, a4⟩ := ins_ok h
  obtain ⟨i1, i2, i3, i4⟩ := insErr_zero a2
  obtain ⟨_, w0, w1⟩ := who_dot a1
  obtain ⟨g1, g2, g3⟩ := ins_gap hk.book i3 i4
  rw [a3]
  exact typed_goes who _ w0 w1 _ _ _ d _ _ hk (List.take_append_drop _ _).symm g3 rfl h0 (by rw [toList_len]; omega) (by rw [toList_len]; omega) (by rw [toList_len]; omega) i2 a4
end LDoc
end Go.Proofs.YtmfbckpjemfkeaaGreatDoor
/- A text typed at once, or letter by letter: plain. Conditions: none. -/
namespace Go.Proofs.YtmfbckpjemfkeaaGreatDoor
open Go.RowKit
set_option linter.unusedVariables false
namespace LDoc
/-- What stands in a document in which one author typed letter by letter. -/
structure Typing (who : Int) (t : List UInt8) (st : LDoc) : Prop where
  ok : st.Ok
  text : textL st.book = t
  n : nOf st.known ⟨who, 0⟩ = (t.length : Int)
  ops : st.ops.length = t.length
  book : st.book.length = t.length
theorem Typing.new {who : Int} (h : whoE who = 0) : Typing who [] LDoc.new := by
  refine ⟨new_ok, rfl, ?_, rfl, rfl⟩
  obtain ⟨h1, _⟩ := who_dot h
  have := Says.new.known _ h1
  rw [nOf_who _ (show (⟨who, 0⟩ : LDot).who = (⟨who, 1⟩ : LDot).who from rfl), this]
  rfl
theorem tx_list {l : List LLeaf} : (textOf l).toList = textL l := by
  rw [toList_data]; rfl
theorem tx_size (l : List LLeaf) : (textOf l).size = (textL l).length := strOf_size _
/-- One more insert, that has gone. -/
theorem Typing.step {who : Int} {t : List UInt8} {st : LDoc} (h : Typing who t st) {off : Int} {text : ByteArray} (hi : st.insE who off text = 0) (hf : t.length + text.size ≤ 300) :
    st.doE (st.insR who off text) = 0 ∧ 0 ≤ off ∧ off ≤ (t.length : Int) ∧ Typing who (t.take off.toNat ++ text.toList ++ t.drop off.toNat) (st.doR (st.insR who off text)) := by
  obtain ⟨a1, a2, a3, a4⟩ := ins_ok hi
  obtain ⟨i1, i2, i3, i4⟩ := insErr_zero a2
  rw [tx_size, h.text] at i4
  have hd := ins_goes h.ok hi (by rw [h.n]; omega) (by rw [h.n]; omega) (by rw [h.ops]; omega) (by rw [h.book]; omega)
  obtain ⟨a, b, e1, e2, e3, e4, e5, e6, e7, e8, e9⟩ := ins_does h.ok hi hd
  have hk2 := doR_ok (st.insR who off text) h.ok
  have hlen : (st.insR who off text).length = text.size := by rw [a3, typedOps_len, toList_len]
  have htab : textL a ++ textL b = t := by
    rw [← h.text, e1]
    unfold textL
    rw [List.filter_append, List.map_append]
  have hta : textL a = t.take off.toNat := by
    rw [← htab, List.take_left' (by omega)]
  have htb : textL b = t.drop off.toNat := by
    rw [← htab, List.drop_left' (by omega)]
  refine ⟨hd, i3, i4, hk2, ?_, ?_, ?_, ?_⟩
  · rw [e3]
    have : textL (a ++ (st.insR who off text).map leafOf ++ b) = textL a ++ textL ((st.insR who off text).map leafOf) ++ textL b := by
      unfold textL
      rw [List.filter_append, List.filter_append, List.map_append, List.map_append]
    rw [this, e4, hta, htb]
  · obtain ⟨g1, g2, g3⟩ := ins_gap h.ok.book i3 (by rw [tx_size, h.text]; exact i4)
    obtain ⟨w1, w2, w3⟩ := who_dot a1
    have h4 := a4
    rw [a3] at hd ⊢
    obtain ⟨r1, r2, r3, r4, r5⟩ := typed_do who _ text.toList _ _ st _ _ h.ok (List.take_append_drop _ _).symm g3 rfl h4 hd
    rw [r5, h.n]
    simp only [List.length_append, List.length_take, List.length_drop]
    omega
  · rw [e7, List.length_append, hlen, h.ops]
    simp only [List.length_append, List.length_take, List.length_drop, toList_len]
    omega
  · have := congrArg List.length e1
    rw [List.length_append] at this
    rw [e3]
    simp only [List.length_append, List.length_map, List.length_take, List.length_drop, toList_len, hlen]
    rw [h.book] at this
    omega
/-- Why an insert into a document is refused, where the offset is right. -/
theorem ins_why {st : LDoc} (hk : st.Ok) {who off : Int} {text : ByteArray} (hw : whoE who = 0) (hb : text.toList.any badC = false) (hs : text.size ≤ 200) (h0 : 0 ≤ off) (h1 : off ≤ ((textOf st.book).size : Int)) : st.insE who off text = 0 ∨ st.insE who off text = 8 := by
  rcases insE_cases hk who off text with ⟨c1, _⟩ | ⟨_, c2, _⟩ | ⟨_, _, c3⟩
  · exact absurd hw c1
  · refine absurd ?_ c2
    unfold insErr
    rw [if_neg (by omega), if_neg (by rw [hb]; decide), if_neg (by omega)]
  · exact c3
theorem ins_far {st : LDoc} (hk : st.Ok) {who off : Int} {text : ByteArray} (hw : whoE who = 0) (hb : text.toList.any badC = false) (hs : text.size ≤ 200) (h : off < 0 ∨ ((textOf st.book).size : Int) < off) : st.insE who off text = 1 := by
  have hi : insErr st.book off text = 1 := by
    unfold insErr
    rw [if_neg (by omega), if_neg (by rw [hb]; decide), if_pos h]
  rcases insE_cases hk who off text with ⟨c1, _⟩ | ⟨_, _, c2⟩ | ⟨_, c2, _⟩
  · exact absurd hw c1
  · rw [c2, hi]
  · omega
end LDoc
end Go.Proofs.YtmfbckpjemfkeaaGreatDoor

/- What an insert makes of a book: plain. Conditions: none. -/
import Derived.Test.YtngalkmmpjegkaaGreatDoorNthSeen
namespace Go.Proofs.YtngalkmmpjegkaaGreatDoor
open Go.RowKit
set_option linter.unusedVariables false
theorem good_lt {a b : ByteArray} {who : Int} {p : ByteArray} (h : Good a b who p) : lt a p = true ∧ (b.size ≠ 0 → lt p b = true) := by
  refine ⟨?_, h.below⟩
  cases h1 : lt a p with
  | true => rfl
  | false =>
    have h2 : lt p a = false := h.above
    have := lt_total h1 h2
    subst this
    have := h.other
    simp at this
/-- Places of a are up to left, of b from right on. -/
structure Gap (a b : List LLeaf) (left right : ByteArray) : Prop where
  low : ∀ x ∈ a, x.place = left ∨ lt x.place left = true
  high : ∀ x ∈ b, right.size ≠ 0 ∧ (x.place = right ∨ lt right x.place = true)
theorem Gap.at_ {a b : List LLeaf} {left right : ByteArray} (h : Gap a b left right) {who : Int} {p : ByteArray} (hp : Good left right who p) : (∀ x ∈ a, lt x.place p = true) ∧ ∀ x ∈ b, lt p x.place = true := by
  obtain ⟨h1, h2⟩ := good_lt hp
  refine ⟨fun x hx => ?_, fun x hx => ?_⟩
  · rcases h.low x hx with h3 | h3
    · rw [h3]; exact h1
    · exact lt_trans h3 h1
  · obtain ⟨h4, h3⟩ := h.high x hx
    rcases h3 with h3 | h3
    · rw [h3]; exact h2 h4
    · exact lt_trans (h2 h4) h3
theorem Gap.next {a b : List LLeaf} {left right : ByteArray} (h : Gap a b left right) {who : Int} {p : ByteArray} (hp : Good left right who p) (n : Int) (s : Bool) : Gap (a ++ [⟨p, n, s⟩]) b p right := by
  obtain ⟨h1, h2⟩ := h.at_ hp
  refine ⟨fun x hx => ?_, h.high⟩
  rcases List.mem_append.1 hx with hx | hx
  · exact .inr (h1 x hx)
  · simp at hx; subst hx; exact .inl rfl
theorem gap_none {a b : List LLeaf} {p : ByteArray} (hr : Rising (a ++ b)) (h1 : ∀ x ∈ a, lt x.place p = true) (h2 : ∀ x ∈ b, lt p x.place = true) : hasAt (a ++ b) p = false := by
  cases h : hasAt (a ++ b) p with
  | false => rfl
  | true =>
    obtain ⟨x, hx, he⟩ := (hasAt_iff hr p).1 h
    rcases List.mem_append.1 hx with hx | hx
    · exact absurd he (lt_ne (h1 x hx))
    · exact absurd he.symm (lt_ne (h2 x hx))
theorem upd_gap {a b : List LLeaf} {x : LLeaf} (hr : Rising (a ++ b)) (h1 : ∀ y ∈ a, lt y.place x.place = true) (h2 : ∀ y ∈ b, lt x.place y.place = true) : upd (a ++ b) x = a ++ x :: b := by
  rw [upd_eq hr, List.filter_append, List.filter_append]
  have e1 : a.filter (fun y => lt y.place x.place) = a := List.filter_eq_self.2 h1
  have e2 : b.filter (fun y => lt y.place x.place) = [] := List.filter_eq_nil_iff.2 fun y hy => by rw [lt_asymm (h2 y hy)]; decide
  have e3 : a.filter (fun y => lt x.place y.place) = [] := List.filter_eq_nil_iff.2 fun y hy => by rw [lt_asymm (h1 y hy)]; decide
  have e4 : b.filter (fun y => lt x.place y.place) = b := List.filter_eq_self.2 h2
  rw [e1, e2, e3, e4]; simp
theorem upd_mid {a b : List LLeaf} {x y : LLeaf} (hr : Rising (a ++ y :: b)) (he : x.place = y.place) : upd (a ++ y :: b) x = a ++ x :: b := by
  have hp := rising_pair.1 hr
  rw [List.pairwise_append, List.pairwise_cons] at hp
  obtain ⟨_, ⟨h2, _⟩, h3⟩ := hp
  have e0 : a.filter (fun z => lt z.place x.place) = a := List.filter_eq_self.2 fun z hz => by rw [he]; exact h3 z hz y (by simp)
  have e1 : b.filter (fun z => lt z.place x.place) = [] := List.filter_eq_nil_iff.2 fun z hz => by rw [he, lt_asymm (h2 z hz)]; decide
  have e2 : a.filter (fun z => lt x.place z.place) = [] := List.filter_eq_nil_iff.2 fun z hz => by rw [he, lt_asymm (h3 z hz y (by simp))]; decide
  have e3 : b.filter (fun z => lt x.place z.place) = b := List.filter_eq_self.2 fun z hz => by rw [he]; exact h2 z hz
  rw [upd_eq hr, List.filter_append, List.filter_append, List.filter_cons, List.filter_cons, e0, e1, e2, e3, he, lt_irrefl]
  simp
namespace LDoc
/-- A new op that goes. -/
theorem apply_new {d : LDoc} (hk : d.Ok) {o : LOp} (h : d.applyE o = 0) (hn : nOf d.known o.dot < o.dot.n) :
    d.applyB o = true ∧ opErr o = 0 ∧ addErr d.known o.dot = 0 ∧ d.turnE o = 0 ∧ d.apply o = { d.turn o with known := addRes d.known o.dot, ops := d.ops ++ [o] } := by
  have hh : hasRes d.known o.dot = false := by
    unfold hasRes
    rw [Bool.and_eq_false_iff]
    exact .inr (decide_eq_false (by omega))
  have hb : d.applyB o = true := by unfold applyB; rw [hh, decide_eq_true h]; simp
  obtain ⟨h1, h2, h3, h4, h5⟩ := applyB_ok hk hb
  exact ⟨hb, h1, h2, h4, by unfold apply; rw [if_pos hb]⟩
end LDoc
def leafOf (o : LOp) : LLeaf := ⟨o.place, o.letter, false⟩
/-- The ops of letters that are typed. -/
def typedOps (who : Int) (right : ByteArray) : List UInt8 → ByteArray → Int → List LOp
  | [], _, _ => []
  | c :: t, left, n => ⟨⟨who, n + 1⟩, 1, strOf (betweenRes left right who), c.toNat, []⟩ :: typedOps who right t (strOf (betweenRes left right who)) (n + 1)
def TypedOk (who : Int) (right : ByteArray) : List UInt8 → ByteArray → Prop
  | [], _ => True
  | c :: t, left => betweenErr left right who = 0 ∧ TypedOk who right t (strOf (betweenRes left right who))
theorem typed_ops (right : ByteArray) : ∀ (t : List UInt8) (left : ByteArray) (m : LMk), (LMk.typed right t left m).2 = 0 → (LMk.typed right t left m).1.ops = m.ops ++ typedOps m.who right t left m.n ∧ TypedOk m.who right t left
  | [], left, m => fun _ => ⟨by simp [LMk.typed, typedOps], trivial⟩
  | c :: t, left, m => fun h => by
    unfold LMk.typed at h ⊢
    by_cases hb : betweenErr left right m.who ≠ 0
    · rw [if_pos hb] at h; exact absurd h hb
    · rw [if_neg hb] at h ⊢
      obtain ⟨h1, h2⟩ := typed_ops right t _ _ h
      refine ⟨?_, by omega, h2⟩
      rw [h1]
      simp [LMk.wr, LMk.add, LMk.put, LMk.next, typedOps]
theorem typedOps_len (who : Int) (right : ByteArray) : ∀ (t : List UInt8) (left : ByteArray) (n : Int), (typedOps who right t left n).length = t.length
  | [], _, _ => rfl
  | c :: t, left, n => by simp [typedOps, typedOps_len who right t]
theorem nOf_who (l : List Int) {d e : LDot} (h : d.who = e.who) : nOf l d = nOf l e := by unfold nOf; rw [h]
/-- Letters that are typed stand where they were typed. -/
theorem typed_do (who : Int) (right : ByteArray) : ∀ (t : List UInt8) (left : ByteArray) (n : Int) (d : LDoc) (a b : List LLeaf), d.Ok → d.book = a ++ b → Gap a b left right → nOf d.known ⟨who, 0⟩ = n → TypedOk who right t left →
    d.doE (typedOps who right t left n) = 0 →
    (d.doR (typedOps who right t left n)).book = a ++ (typedOps who right t left n).map leafOf ++ b ∧ (d.doR (typedOps who right t left n)).marks = d.marks ∧ (d.doR (typedOps who right t left n)).joined = d.joined ∧
      (d.doR (typedOps who right t left n)).ops = d.ops ++ typedOps who right t left n ∧ nOf (d.doR (typedOps who right t left n)).known ⟨who, 0⟩ = n + t.length
  | [], left, n, d, a, b => fun hk hb hg hn ht hd => by simp [typedOps, LDoc.doR, hb, hn]
  | c :: t, left, n, d, a, b => fun hk hb hg hn ht hd => by
    obtain ⟨t1, t2⟩ := ht
    have hgood := good_of t1
    rw [typedOps] at hd ⊢
    generalize hp : strOf (betweenRes left right who) = p at *
    unfold LDoc.doE at hd
    unfold LDoc.doR
    by_cases he : d.applyE ⟨⟨who, n + 1⟩, 1, p, c.toNat, []⟩ ≠ 0
    · rw [if_pos he] at hd; exact absurd hd he
    rw [if_neg he] at hd ⊢
    have hn' : nOf d.known ⟨who, n + 1⟩ = n := (nOf_who _ rfl).trans hn
    obtain ⟨q1, q2, q3, q4, q5⟩ := LDoc.apply_new hk (o := ⟨⟨who, n + 1⟩, 1, p, c.toNat, []⟩) (by omega) (by rw [hn']; show n < n + 1; omega)
    obtain ⟨g1, g2⟩ := hg.at_ hgood
    have hr : Rising (a ++ b) := by rw [← hb]; exact hk.book.rising
    have hno := gap_none hr g1 g2
    have hturn : d.turn ⟨⟨who, n + 1⟩, 1, p, c.toNat, []⟩ = { d with book := a ++ ⟨p, c.toNat, false⟩ :: b } := by
      unfold LDoc.turnE at q4
      rw [if_pos rfl] at q4
      unfold LDoc.turn
      rw [if_pos rfl, if_pos q4, write_upd, hb, no_old hno]
      rw [upd_gap hr g1 g2]
      rfl
    rw [hturn] at q5
    obtain ⟨a1, a2, a3⟩ := add_ok q3
    have hk2 := LDoc.apply_ok hk ⟨⟨who, n + 1⟩, 1, p, c.toNat, []⟩
    rw [q5] at hk2 hd ⊢
    have hn2 : nOf (addRes d.known ⟨who, n + 1⟩) ⟨who, 0⟩ = n + 1 := by
      rw [nOf_who _ (show (⟨who, 0⟩ : LDot).who = (⟨who, n + 1⟩ : LDot).who from rfl), nOf_add a1 a2 a2, if_pos rfl]
    obtain ⟨r1, r2, r3, r4, r5⟩ := typed_do who right t p (n + 1) _ (a ++ [⟨p, c.toNat, false⟩]) b hk2 (by simp) (hg.next hgood _ _) hn2 t2 hd
    refine ⟨?_, r2, r3, ?_, ?_⟩
    · rw [r1]; simp [leafOf]
    · rw [r4]; simp
    · rw [r5]; simp; omega
theorem typed_letters (who : Int) (right : ByteArray) : ∀ (t : List UInt8) (left : ByteArray) (n : Int), t.any badC = false → textL ((typedOps who right t left n).map leafOf) = t
  | [], _, _ => fun _ => rfl
  | c :: t, left, n => fun h => by
    rw [List.any_cons, Bool.or_eq_false_iff] at h
    have h1 : letterB (c.toNat : Int) = true := by have := h.1; unfold badC at this; simpa using this
    have h2 := letterB_range h1
    rw [typedOps, List.map_cons, textL_cons, typed_letters who right t _ _ h.2]
    have hs : seenB (leafOf ⟨⟨who, n + 1⟩, 1, strOf (betweenRes left right who), c.toNat, []⟩) = true := by
      simp [seenB, leafOf]; omega
    rw [if_pos hs]
    simp [leafOf, u8]
/-- Where an insert goes. -/
theorem ins_gap {l : List LLeaf} (hb : BookOk l) {off : Int} (h0 : 0 ≤ off) (h1 : off ≤ ((textOf l).size : Int)) :
    idxOf l off ≤ l.length ∧ ((textL (l.take (idxOf l off))).length : Int) = off ∧ Gap (l.take (idxOf l off)) (l.drop (idxOf l off)) (leftOf l off) (rightOf l (idxOf l off)) := by
  have hsz : (textOf l).size = (textL l).length := strOf_size _
  have hright : ∀ i, i ≤ l.length → ∀ x ∈ l.drop i, (rightOf l i).size ≠ 0 ∧ (x.place = rightOf l i ∨ lt (rightOf l i) x.place = true) := fun i hi x hx => by
    obtain ⟨j, hj, rfl⟩ := List.getElem_of_mem hx
    rw [List.length_drop] at hj
    have hil : i < l.length := by omega
    have e : rightOf l i = l[i].place := by unfold rightOf; rw [if_pos hil]; simp [List.getD, hil]
    rw [e, List.getElem_drop]
    refine ⟨?_, ?_⟩
    · have := (okPlace (hb.leafs _ (List.getElem_mem hil)).place).2.2.1; omega
    · rcases Nat.eq_zero_or_pos j with hj0 | hj0
      · subst hj0; exact .inl rfl
      · exact .inr (rising_lt hb.rising i (i + j) hil (by omega) (by omega))
  by_cases hp : 0 < off
  · obtain ⟨o, rfl⟩ : ∃ o : Nat, off = (o : Int) + 1 := ⟨(off - 1).toNat, by omega⟩
    obtain ⟨n, hn, e1, e2, e3⟩ := nth_seen l 0 o (by omega)
    have en : (nthFrom 0 l ((o : Int) + 1 - 1)).toNat = n := by rw [show (o : Int) + 1 - 1 = o by omega, e1]; omega
    have hi : idxOf l ((o : Int) + 1) = n + 1 := by unfold idxOf; rw [if_pos hp, en]
    have hl : leftOf l ((o : Int) + 1) = l[n].place := by unfold leftOf; rw [if_pos hp, en]; simp [List.getD, hn]
    rw [hi, hl]
    refine ⟨by omega, ?_, fun x hx => ?_, hright (n + 1) (by omega)⟩
    · rw [textL_take hn, if_pos e2, List.length_append, e3]; simp
    · obtain ⟨j, hj, rfl⟩ := List.getElem_of_mem hx
      rw [List.length_take] at hj
      rw [List.getElem_take]
      by_cases hjn : j = n
      · subst hjn; exact .inl rfl
      · exact .inr (rising_lt hb.rising j n (by omega) hn (by omega))
  · obtain rfl : off = 0 := by omega
    have hi : idxOf l 0 = 0 := by unfold idxOf; rw [if_neg (by omega)]
    rw [hi]
    exact ⟨by omega, by simp [textL], fun x hx => by simp at hx, hright 0 (by omega)⟩
theorem insErr_zero {l : List LLeaf} {off : Int} {text : ByteArray} (h : insErr l off text = 0) : text.size ≤ 200 ∧ text.toList.any badC = false ∧ 0 ≤ off ∧ off ≤ ((textOf l).size : Int) := by
  unfold insErr at h
  split at h
  · omega
  split at h
  · omega
  split at h
  · omega
  rename_i h1 h2 h3
  exact ⟨by omega, by simpa using h2, by omega, by omega⟩
theorem who_dot {who : Int} (h : LDoc.whoE who = 0) : dotErr ⟨who, 1⟩ = 0 ∧ 1 ≤ who ∧ who ≤ 8 := by
  unfold LDoc.whoE at h
  split at h
  · omega
  · refine ⟨?_, by omega, by omega⟩
    unfold dotErr
    rw [if_pos]
    simp only
    omega
namespace LDoc
/-- What an insert is. -/
theorem ins_ok {d : LDoc} {who off : Int} {text : ByteArray} (h : d.insE who off text = 0) : whoE who = 0 ∧ insErr d.book off text = 0 ∧
    d.insR who off text = typedOps who (rightOf d.book (idxOf d.book off)) text.toList (leftOf d.book off) (nOf d.known ⟨who, 0⟩) ∧ TypedOk who (rightOf d.book (idxOf d.book off)) text.toList (leftOf d.book off) := by
  have h0 := h
  unfold insE at h
  split at h
  · omega
  rename_i h1
  unfold LMk.ins at h
  split at h
  · rename_i h2; exact absurd h h2
  rename_i h2
  obtain ⟨t1, t2⟩ := typed_ops _ _ _ _ h
  refine ⟨by omega, by omega, ?_, t2⟩
  unfold insR
  rw [if_pos h0]
  unfold LMk.ins
  rw [if_neg h2, t1]
  simp [maker]
/-- What is typed is there. -/
theorem ins_does {d : LDoc} (hk : d.Ok) {who off : Int} {text : ByteArray} (h : d.insE who off text = 0) (hd : d.doE (d.insR who off text) = 0) :
    ∃ a b : List LLeaf, d.book = a ++ b ∧ ((textL a).length : Int) = off ∧ (d.doR (d.insR who off text)).book = a ++ (d.insR who off text).map leafOf ++ b ∧ textL ((d.insR who off text).map leafOf) = text.toList ∧
      (d.doR (d.insR who off text)).marks = d.marks ∧ (d.doR (d.insR who off text)).joined = d.joined ∧ (d.doR (d.insR who off text)).ops = d.ops ++ d.insR who off text ∧
      (∀ x ∈ a, ∀ o ∈ d.insR who off text, lt x.place o.place = true) ∧ (∀ x ∈ b, ∀ o ∈ d.insR who off text, lt o.place x.place = true) := by
  have hk2 := doR_ok (d.insR who off text) hk
  obtain ⟨h1, h2, h3, h4⟩ := ins_ok h
  obtain ⟨i1, i2, i3, i4⟩ := insErr_zero h2
  obtain ⟨g1, g2, g3⟩ := ins_gap hk.book i3 i4
  rw [h3] at hd hk2 ⊢
  obtain ⟨r1, r2, r3, r4, r5⟩ := typed_do who _ text.toList _ _ d _ _ hk (List.take_append_drop _ _).symm g3 rfl h4 hd
  refine ⟨_, _, (List.take_append_drop (idxOf d.book off) _).symm, g2, r1, typed_letters _ _ _ _ _ i2, r2, r3, r4, ?_, ?_⟩
  · intro x hx o ho
    have hr := rising_pair.1 hk2.book.rising
    rw [r1, List.pairwise_append, List.pairwise_append] at hr
    exact hr.1.2.2 x hx (leafOf o) (List.mem_map.2 ⟨o, ho, rfl⟩)
  · intro x hx o ho
    have hr := rising_pair.1 hk2.book.rising
    rw [r1, List.pairwise_append] at hr
    exact hr.2.2 (leafOf o) (by simp; exact .inr ⟨o, ho, rfl⟩) x hx
end LDoc
end Go.Proofs.YtngalkmmpjegkaaGreatDoor

/- What a book is: leafs by their places; written and struck. Plain lemmas. Conditions: none. -/
import Derived.Test.YthfbjfocmnikaaaGreatDoorBookWrite
namespace Go.Proofs.YthfbjfocmnikaaaGreatDoor
open Go.RowKit
set_option linter.unusedVariables false

theorem tl_inj {p q : ByteArray} (h : p.toList = q.toList) : p = q := by
  rw [toList_data, toList_data] at h
  exact ByteArray.ext (Array.ext' h)
def lt (p q : ByteArray) : Bool := Op.bytesLess p.toList q.toList
theorem lt_trans {p q r : ByteArray} (h : lt p q = true) (h2 : lt q r = true) : lt p r = true := less_trans _ _ _ h h2
theorem lt_irrefl (p : ByteArray) : lt p p = false := less_irrefl' _
theorem lt_asymm {p q : ByteArray} (h : lt p q = true) : lt q p = false := less_asymm' _ _ h
theorem lt_total {p q : ByteArray} (h : lt p q = false) (h2 : lt q p = false) : p = q := by
  by_cases he : p = q
  · exact he
  · have h3 : lt q p = true := less_total' _ _ h (fun h4 => he (tl_inj h4))
    rw [h3] at h2; cases h2
theorem lt_ne {p q : ByteArray} (h : lt p q = true) : p ≠ q := by
  rintro rfl
  rw [lt_irrefl] at h; cases h

theorem rising_pair {l : List LLeaf} : Rising l ↔ l.Pairwise (fun x y => lt x.place y.place = true) := by
  induction l with
  | nil => simp [Rising]
  | cons x l ih =>
    rw [List.pairwise_cons, ← ih]
    constructor
    · rintro ⟨h1, h2⟩
      refine ⟨fun y hy => ?_, h2⟩
      obtain ⟨j, hj, rfl⟩ := List.getElem_of_mem hy
      exact rising_lt (l := x :: l) ⟨h1, h2⟩ 0 (j + 1) (by simp) (by simpa using hj) (by omega)
    · rintro ⟨h1, h2⟩
      exact ⟨fun y hy => h1 y (List.mem_of_mem_head? hy), h2⟩
/-- Two books with the same leafs are one. -/
theorem rising_ext {l m : List LLeaf} (hl : Rising l) (hm : Rising m) (h : ∀ x, x ∈ l ↔ x ∈ m) : l = m := by
  rw [rising_pair] at hl hm
  induction l generalizing m with
  | nil =>
    cases m with
    | nil => rfl
    | cons y m => exact absurd ((h y).2 (by simp)) (by simp)
  | cons x l ih =>
    cases m with
    | nil => exact absurd ((h x).1 (by simp)) (by simp)
    | cons y m =>
      rw [List.pairwise_cons] at hl hm
      have hxy : x = y := by
        have h1 := (h x).1 (by simp)
        have h2 := (h y).2 (by simp)
        rcases List.mem_cons.1 h1 with h1 | h1
        · exact h1
        · rcases List.mem_cons.1 h2 with h2 | h2
          · exact h2.symm
          · have a := hm.1 _ h1
            have b := hl.1 _ h2
            rw [lt_asymm a] at b; cases b
      subst hxy
      rw [ih hl.2 hm.2 (fun z => ?_)]
      have hz := h z
      simp only [List.mem_cons] at hz
      constructor
      · intro hzl
        rcases hz.1 (.inr hzl) with h1 | h1
        · subst h1; have := hl.1 _ hzl; rw [lt_irrefl] at this; cases this
        · exact h1
      · intro hzm
        rcases hz.2 (.inr hzm) with h1 | h1
        · subst h1; have := hm.1 _ hzm; rw [lt_irrefl] at this; cases this
        · exact h1

/-- A book cut at a place. -/
theorem split_at {l : List LLeaf} (hr : Rising l) (p : ByteArray) :
    l.take (ahead l p) = l.filter (fun x => lt x.place p) ∧ l.drop (ahead l p) = l.filter (fun x => !lt x.place p) := by
  rw [rising_pair] at hr
  have hh : ∀ m : List LLeaf, ahead m p = (m.filter (fun x => lt x.place p)).length := fun _ => rfl
  induction l with
  | nil => exact ⟨rfl, rfl⟩
  | cons x l ih =>
    rw [List.pairwise_cons] at hr
    obtain ⟨i1, i2⟩ := ih hr.2
    cases hx : lt x.place p with
    | true =>
      have e : ahead (x :: l) p = ahead l p + 1 := by rw [hh, hh, List.filter_cons, hx]; rfl
      rw [e, List.take_succ_cons, List.drop_succ_cons, List.filter_cons, List.filter_cons, hx, i1, i2]
      exact ⟨rfl, rfl⟩
    | false =>
      have none_ : ∀ y ∈ l, lt y.place p = false := fun y hy => by
        cases hy2 : lt y.place p with
        | false => rfl
        | true => have := lt_trans (hr.1 y hy) hy2; rw [hx] at this; cases this
      have e0 : l.filter (fun x => lt x.place p) = [] := by rw [List.filter_eq_nil_iff]; intro y hy; rw [none_ y hy]; decide
      have e1 : l.filter (fun x => !lt x.place p) = l := by rw [List.filter_eq_self]; intro y hy; rw [none_ y hy]; rfl
      have e : ahead (x :: l) p = 0 := by rw [hh, List.filter_cons, hx]; simp [e0]
      rw [e, List.filter_cons, List.filter_cons, hx]
      simp [e0, e1]
theorem hasAt_iff {l : List LLeaf} (hr : Rising l) (p : ByteArray) : hasAt l p = true ↔ ∃ x ∈ l, x.place = p := by
  constructor
  · intro h
    have hi := hasAt_lt h
    unfold hasAt at h
    rw [List.getElem?_eq_getElem hi] at h
    exact ⟨_, List.getElem_mem hi, tl_inj (by simpa using h)⟩
  · rintro ⟨x, hx, rfl⟩
    obtain ⟨j, hj, rfl⟩ := List.getElem_of_mem hx
    have ha : ahead l l[j].place = j := ahead_of (by omega) (fun k hk hkj => rising_lt hr k j hk hj hkj) (fun k hk hjk => by
      rcases Nat.lt_or_ge j k with h1 | h1
      · exact less_asymm' _ _ (rising_lt hr j k hj hk h1)
      · obtain rfl : k = j := by omega
        exact less_irrefl' _)
    unfold hasAt
    rw [ha, List.getElem?_eq_getElem hj]
    simp
/-- The leaf that stands at a place, or what would. -/
def old (l : List LLeaf) (p : ByteArray) : LLeaf := if hasAt l p = true then leafAt l p else ⟨p, 0, false⟩
theorem leafAt_mem {l : List LLeaf} {p : ByteArray} (h : hasAt l p = true) : leafAt l p ∈ l ∧ (leafAt l p).place = p := by
  have hi := hasAt_lt h
  have e : leafAt l p = l[ahead l p] := by unfold leafAt; simp [List.getD, hi]
  unfold hasAt at h
  rw [List.getElem?_eq_getElem hi] at h
  rw [e]
  exact ⟨List.getElem_mem hi, tl_inj (by simpa using h)⟩
theorem old_place (l : List LLeaf) (p : ByteArray) : (old l p).place = p := by
  unfold old
  split
  · next h => exact (leafAt_mem h).2
  · rfl
theorem rising_uniq {l : List LLeaf} (hr : Rising l) {x y : LLeaf} (hx : x ∈ l) (hy : y ∈ l) (h : x.place = y.place) : x = y := by
  obtain ⟨i, hi, rfl⟩ := List.getElem_of_mem hx
  obtain ⟨j, hj, rfl⟩ := List.getElem_of_mem hy
  rcases Nat.lt_trichotomy i j with h1 | h1 | h1
  · have h2 : lt l[i].place l[j].place = true := rising_lt hr i j hi hj h1
    exact absurd h (lt_ne h2)
  · subst h1; rfl
  · have h2 : lt l[j].place l[i].place = true := rising_lt hr j i hj hi h1
    exact absurd h.symm (lt_ne h2)
theorem old_mem {l : List LLeaf} (hr : Rising l) {x : LLeaf} (hx : x ∈ l) : old l x.place = x := by
  have h := (hasAt_iff hr x.place).2 ⟨x, hx, rfl⟩
  unfold old
  rw [if_pos h]
  exact rising_uniq hr (leafAt_mem h).1 hx (leafAt_mem h).2
theorem old_none {l : List LLeaf} (hr : Rising l) {p : ByteArray} (h : ∀ x ∈ l, x.place ≠ p) : old l p = ⟨p, 0, false⟩ := by
  unfold old
  rw [if_neg]
  intro hh
  obtain ⟨x, hx, e⟩ := (hasAt_iff hr p).1 hh
  exact h x hx e

/-- A book in which a leaf stands at its place. -/
def upd (l : List LLeaf) (x : LLeaf) : List LLeaf := if hasAt l x.place = true then l.set (ahead l x.place) x else bookPut l (ahead l x.place) x
theorem write_upd (l : List LLeaf) (p : ByteArray) (n : Int) : writeRes l p n = upd l ((old l p).write n) := by
  unfold writeRes upd
  have e : ((old l p).write n).place = p := old_place l p
  rw [e]
  by_cases h : hasAt l p = true
  · rw [if_pos h, if_pos h, old, if_pos h]
  · rw [if_neg h, if_neg h, old, if_neg h]; rfl
theorem strike_upd (l : List LLeaf) (p : ByteArray) : strikeRes l p = upd l (old l p).strike := by
  unfold strikeRes upd
  have e : ((old l p).strike).place = p := old_place l p
  rw [e]
  by_cases h : hasAt l p = true
  · rw [if_pos h, if_pos h, old, if_pos h]
  · rw [if_neg h, if_neg h, old, if_neg h]; rfl
theorem upd_eq {l : List LLeaf} (hr : Rising l) (x : LLeaf) : upd l x = l.filter (fun y => lt y.place x.place) ++ x :: l.filter (fun y => lt x.place y.place) := by
  obtain ⟨s1, s2⟩ := split_at hr x.place
  unfold upd
  by_cases h : hasAt l x.place = true
  · rw [if_pos h]
    have hi := hasAt_lt h
    have e0 : (l[ahead l x.place]).place = x.place := by
      unfold hasAt at h
      rw [List.getElem?_eq_getElem hi] at h
      exact tl_inj (by simpa using h)
    rw [List.set_eq_take_append_cons_drop, if_pos hi, s1]
    congr 2
    have e1 := List.drop_eq_getElem_cons hi
    rw [s2] at e1
    have e2 : l.filter (fun y => lt x.place y.place) = (l.filter (fun y => !lt y.place x.place)).filter (fun y => lt x.place y.place) := by
      rw [List.filter_filter]
      refine List.filter_congr fun y _ => ?_
      cases h1 : lt x.place y.place
      · rfl
      · simp [lt_asymm h1]
    rw [e2, e1, List.filter_cons, e0, lt_irrefl]
    simp only [Bool.false_eq_true, if_false]
    rw [List.filter_eq_self.2]
    intro y hy
    obtain ⟨j, hj, rfl⟩ := List.getElem_of_mem hy
    rw [List.length_drop] at hj
    rw [List.getElem_drop]
    have h3 : lt (l[ahead l x.place]).place (l[ahead l x.place + 1 + j]'(by omega)).place = true := rising_lt hr _ _ hi (by omega) (by omega)
    rw [e0] at h3
    exact h3
  · rw [if_neg h, bookPut, s1, s2]
    congr 2
    refine List.filter_congr fun y hy => ?_
    cases h1 : lt y.place x.place with
    | true => rw [lt_asymm h1]; rfl
    | false =>
      cases h2 : lt x.place y.place with
      | true => rfl
      | false => exact absurd ((hasAt_iff hr _).2 ⟨y, hy, lt_total h1 h2⟩) h
theorem mem_upd {l : List LLeaf} (hr : Rising l) {x y : LLeaf} : y ∈ upd l x ↔ (y ∈ l ∧ y.place ≠ x.place) ∨ y = x := by
  rw [upd_eq hr]
  simp only [List.mem_append, List.mem_cons, List.mem_filter]
  constructor
  · rintro (⟨h1, h2⟩ | h1 | ⟨h1, h2⟩)
    · exact .inl ⟨h1, lt_ne h2⟩
    · exact .inr h1
    · exact .inl ⟨h1, (lt_ne h2).symm⟩
  · rintro (⟨h1, h2⟩ | h1)
    · cases h3 : lt y.place x.place with
      | true => exact .inl ⟨h1, rfl⟩
      | false =>
        cases h4 : lt x.place y.place with
        | true => exact .inr (.inr ⟨h1, rfl⟩)
        | false => exact absurd (lt_total h3 h4) h2
    · exact .inr (.inl h1)
theorem upd_rising {l : List LLeaf} (hr : Rising l) (x : LLeaf) : Rising (upd l x) := by
  rw [upd_eq hr]
  rw [rising_pair] at hr ⊢
  rw [List.pairwise_append, List.pairwise_cons]
  refine ⟨hr.filter _, ⟨fun y hy => (List.mem_filter.1 hy).2, hr.filter _⟩, fun a ha b hb => ?_⟩
  have h1 := (List.mem_filter.1 ha).2
  rcases List.mem_cons.1 hb with rfl | hb
  · exact h1
  · exact lt_trans h1 (List.mem_filter.1 hb).2
theorem upd_len {l : List LLeaf} (x : LLeaf) : (upd l x).length = if hasAt l x.place = true then l.length else l.length + 1 := by
  unfold upd
  split
  · simp
  · exact bookPut_len _ _ _ (ahead_le _ _)
theorem old_upd {l : List LLeaf} (hr : Rising l) (x : LLeaf) (q : ByteArray) : old (upd l x) q = if q = x.place then x else old l q := by
  have hr2 := upd_rising hr x
  by_cases h : q = x.place
  · rw [if_pos h, h]
    exact old_mem hr2 ((mem_upd hr).2 (.inr rfl))
  · rw [if_neg h]
    by_cases h2 : hasAt l q = true
    · obtain ⟨y, hy, rfl⟩ := (hasAt_iff hr q).1 h2
      rw [old_mem hr hy]
      exact old_mem hr2 ((mem_upd hr).2 (.inl ⟨hy, h⟩))
    · rw [old_none hr2, old_none hr]
      · intro y hy e
        exact h2 ((hasAt_iff hr q).2 ⟨y, hy, e⟩)
      · intro y hy e
        rcases (mem_upd hr).1 hy with ⟨h3, _⟩ | rfl
        · exact h2 ((hasAt_iff hr q).2 ⟨y, h3, e⟩)
        · exact h e.symm
theorem hasAt_upd {l : List LLeaf} (hr : Rising l) (x : LLeaf) (q : ByteArray) : hasAt (upd l x) q = (decide (q = x.place) || hasAt l q) := by
  rw [Bool.eq_iff_iff, hasAt_iff (upd_rising hr x), Bool.or_eq_true, hasAt_iff hr, decide_eq_true_iff]
  constructor
  · rintro ⟨y, hy, rfl⟩
    rcases (mem_upd hr).1 hy with ⟨h3, _⟩ | rfl
    · exact .inr ⟨y, h3, rfl⟩
    · exact .inl rfl
  · rintro (rfl | ⟨y, hy, rfl⟩)
    · exact ⟨x, (mem_upd hr).2 (.inr rfl), rfl⟩
    · by_cases h : y.place = x.place
      · exact ⟨x, (mem_upd hr).2 (.inr rfl), h.symm⟩
      · exact ⟨y, (mem_upd hr).2 (.inl ⟨hy, h⟩), rfl⟩
theorem leafErr_zero {prev : Option LLeaf} {x : LLeaf} (h : x.Ok) (hp : ∀ p, prev = some p → lt p.place x.place = true) : leafErr prev x = 0 := by
  unfold leafErr
  rw [if_neg (fun hh => hh h.place), if_neg, if_neg, if_neg]
  · cases prev with
    | none => simp
    | some p => have := hp p rfl; unfold lt at this; simp [this]
  · rintro ⟨h1, h2⟩
    rw [h.struck h1] at h2; cases h2
  · rintro ⟨h1, h2⟩
    have := h.letter h1
    simp [letterB] at h2
    omega
theorem fault_zero {prev : Option LLeaf} {l : List LLeaf} (ho : ∀ x ∈ l, x.Ok) (hr : Rising l) (hp : ∀ p y, prev = some p → l.head? = some y → lt p.place y.place = true) : bookFault prev l = 0 := by
  induction l generalizing prev with
  | nil => rfl
  | cons x l ih =>
    rw [bookFault, leafErr_zero (ho x (by simp)) (fun p hp2 => hp p x hp2 rfl), if_neg (by simp)]
    exact ih (fun y hy => ho y (by simp [hy])) hr.2 (fun p y hp2 hy => by cases hp2; exact hr.1 y hy)
theorem bookErr_zero {l : List LLeaf} (h : BookOk l) : bookErr l = 0 := by
  unfold bookErr
  rw [if_neg (by have := h.few; omega)]
  exact fault_zero h.leafs h.rising (by simp)
theorem upd_ok {l : List LLeaf} (h : BookOk l) {x : LLeaf} (hx : x.Ok) (hn : hasAt l x.place = true ∨ l.length < 300) : BookOk (upd l x) := by
  refine ⟨?_, fun y hy => ?_, upd_rising h.rising x⟩
  · rw [upd_len]
    have := h.few
    split
    · exact this
    · next h1 =>
      rcases hn with h2 | h2
      · exact absurd h2 h1
      · omega
  · rcases (mem_upd h.rising).1 hy with ⟨h1, _⟩ | rfl
    · exact h.leafs y h1
    · exact hx
theorem letterB_range {n : Int} (h : letterB n = true) : 32 ≤ n ∧ n ≤ 126 := by
  simpa [letterB] using h
/-- What is written goes. -/
theorem write_ok {l : List LLeaf} {p : ByteArray} {n : Int} (h : writeErr l p n = 0) :
    BookOk l ∧ placeErr p = 0 ∧ letterB n = true ∧ (hasAt l p = true ∨ l.length < 300) ∧ ((old l p).letter = 0 ∨ (old l p).letter = n) := by
  unfold writeErr at h
  by_cases h1 : bookReady l p ≠ 0
  · rw [if_pos h1] at h; exact absurd h h1
  rw [if_neg h1] at h
  obtain ⟨b, c⟩ := bready_ok (show bookReady l p = 0 by omega)
  by_cases h2 : letterB n = false
  · rw [if_pos h2] at h; omega
  rw [if_neg h2] at h
  have h2 : letterB n = true := by simpa using h2
  by_cases h3 : hasAt l p = false
  · rw [if_pos h3] at h
    unfold putErr at h
    have h4 : ¬ 300 ≤ l.length := by
      intro h4
      rw [if_pos h4] at h; omega
    refine ⟨b, c, h2, .inr (by omega), .inl ?_⟩
    unfold old
    rw [if_neg (by rw [h3]; decide)]
  · rw [if_neg h3] at h
    have h3 : hasAt l p = true := by simpa using h3
    refine ⟨b, c, h2, .inl h3, ?_⟩
    unfold old
    rw [if_pos h3]
    by_cases h4 : (leafAt l p).letter = 0
    · exact .inl h4
    · right
      by_cases h5 : (leafAt l p).letter = n
      · exact h5
      · rw [if_pos ⟨h4, h5⟩] at h; omega
theorem strike_ok {l : List LLeaf} {p : ByteArray} (h : strikeErr l p = 0) : BookOk l ∧ placeErr p = 0 ∧ (hasAt l p = true ∨ l.length < 300) := by
  unfold strikeErr at h
  by_cases h1 : bookReady l p ≠ 0
  · rw [if_pos h1] at h; exact absurd h h1
  rw [if_neg h1] at h
  obtain ⟨b, c⟩ := bready_ok (show bookReady l p = 0 by omega)
  refine ⟨b, c, ?_⟩
  by_cases h3 : hasAt l p = false
  · rw [if_pos h3] at h
    unfold putErr at h
    right
    by_cases h4 : 300 ≤ l.length
    · rw [if_pos h4] at h; omega
    · omega
  · exact .inl (by simpa using h3)
theorem old_ok {l : List LLeaf} (b : BookOk l) {p : ByteArray} (c : placeErr p = 0) : (old l p).place = p ∧ ((old l p).letter ≠ 0 → 32 ≤ (old l p).letter ∧ (old l p).letter ≤ 126) := by
  refine ⟨old_place l p, ?_⟩
  by_cases h : hasAt l p = true
  · unfold old
    rw [if_pos h]
    exact (b.leafs _ (leafAt_mem h).1).letter
  · unfold old
    rw [if_neg h]
    intro h; exact absurd rfl h
theorem write_leaf_ok {l : List LLeaf} {p : ByteArray} {n : Int} (c : placeErr p = 0) (h2 : letterB n = true) : ((old l p).write n).Ok := by
  have h := letterB_range h2
  refine ⟨?_, fun _ => h, fun h0 => ?_⟩
  · show placeErr (old l p).place = 0; rw [old_place]; exact c
  · have : n = 0 := h0
    omega
theorem strike_leaf_ok {l : List LLeaf} (b : BookOk l) {p : ByteArray} (c : placeErr p = 0) : ((old l p).strike).Ok := by
  refine ⟨?_, (old_ok b c).2, fun _ => rfl⟩
  show placeErr (old l p).place = 0; rw [old_place]; exact c
theorem write_book {l : List LLeaf} {p : ByteArray} {n : Int} (h : writeErr l p n = 0) : BookOk (writeRes l p n) := by
  obtain ⟨b, c, h2, h3, _⟩ := write_ok h
  rw [write_upd]
  refine upd_ok b (write_leaf_ok c h2) ?_
  rw [show ((old l p).write n).place = p from old_place l p]
  exact h3
theorem strike_book {l : List LLeaf} {p : ByteArray} (h : strikeErr l p = 0) : BookOk (strikeRes l p) := by
  obtain ⟨b, c, h3⟩ := strike_ok h
  rw [strike_upd]
  refine upd_ok b (strike_leaf_ok b c) ?_
  rw [show ((old l p).strike).place = p from old_place l p]
  exact h3
end Go.Proofs.YthfbjfocmnikaaaGreatDoor

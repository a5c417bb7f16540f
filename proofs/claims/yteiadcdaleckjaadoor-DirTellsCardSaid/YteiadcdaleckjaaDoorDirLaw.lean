/- Stretches, in plain Lean: places rise, offsets rise. No program in sight. -/
import Derived.Test.YteiadcdaleckjaaDoorDirStr
namespace Go.Proofs.YteiadcdaleckjaaDoor
set_option linter.unusedVariables false

def ltP (p q : ByteArray) : Prop := Op.bytesLess p.toList q.toList = true
theorem ltP_trans {p q r : ByteArray} (h : ltP p q) (h2 : ltP q r) : ltP p r := less_trans _ _ _ h h2
theorem ltP_irrefl (p : ByteArray) : ¬ ltP p p := by unfold ltP; rw [less_irrefl']; decide
def Rises (ps : List ByteArray) : Prop := ps.Pairwise ltP
theorem ord_place {a b : LMark} (h : ¬ 0 ≤ ordM a b) : ltP a.place b.place ∨ a.place = b.place := by
  unfold ordM orI at h
  by_cases h0 : Lib.compareBytes a.place.data.toList b.place.data.toList = 0
  · right
    have := cmp_zero a.place.data.toList b.place.data.toList
    rw [h0] at this
    have h1 : a.place.data.toList = b.place.data.toList := by
      have h2 : (a.place.data.toList == b.place.data.toList) = true := this.symm
      exact beq_iff_eq.mp h2
    exact ByteArray.ext (Array.ext' h1)
  · left
    unfold ltP
    rw [toList_data, toList_data, ← cmp_less_iff]
    rw [if_pos h0] at h
    omega
theorem rises_last {ps : List ByteArray} {q p : ByteArray} (h : Rises ps) (hl : ps.getLast? = some q) (hq : ltP q p) : ∀ a ∈ ps, ltP a p := by
  intro a ha
  have hne : ps ≠ [] := by rintro rfl; simp at ha
  have hg : ps.getLast hne = q := by rw [List.getLast?_eq_some_getLast hne] at hl; injection hl
  have hs : ps = ps.dropLast ++ [q] := by rw [← hg, List.dropLast_concat_getLast]
  unfold Rises at h
  rw [hs] at h ha
  rw [List.pairwise_append] at h
  rcases List.mem_append.mp ha with ha | ha
  · exact ltP_trans (h.2.2 a ha q (by simp)) hq
  · simp at ha; subst ha; exact hq
theorem rises_fold : ∀ (m : List LMark) (prev : Option LMark) (out : List ByteArray), out.getLast? = prev.map LMark.place → Rises out → marksFault prev m = 0 → Rises (m.foldl plStep out) := by
  intro m
  induction m with
  | nil => intro prev out _ h _; exact h
  | cons x m ih =>
    intro prev out hl hr hf
    rw [marksFault_cons] at hf
    by_cases h1 : markErr x ≠ 0
    · rw [if_pos h1] at hf; exact absurd hf h1
    rw [if_neg h1] at hf
    by_cases h2 : mClash prev x = true
    · rw [if_pos h2] at hf; omega
    rw [if_neg h2] at hf
    show Rises (m.foldl plStep (plStep out x))
    by_cases h3 : out.getLast? = some x.place
    · have : plStep out x = out := by unfold plStep; rw [if_pos h3]
      rw [this]
      exact ih (some x) out h3 hr hf
    · have : plStep out x = out ++ [x.place] := by unfold plStep; rw [if_neg h3]
      rw [this]
      refine ih (some x) _ (by simp) ?_ hf
      cases prev with
      | none =>
        have : out = [] := by simpa using hl
        subst this
        simp [Rises]
      | some p =>
        have hl' : out.getLast? = some p.place := hl
        have h4 : ¬ 0 ≤ ordM p x := by intro h; apply h2; simp [mClash, h]
        rcases ord_place h4 with h5 | h5
        · unfold Rises
          rw [List.pairwise_append]
          refine ⟨hr, by simp, fun a ha b hb => ?_⟩
          simp at hb; subst hb
          exact rises_last hr hl' h5 a ha
        · rw [h5] at hl'; exact absurd hl' h3
theorem rises_places {m : List LMark} (h : marksErr m = 0) : Rises (places m) := by
  unfold marksErr at h
  by_cases h1 : 40 < m.length
  · rw [if_pos h1] at h; omega
  · rw [if_neg h1] at h
    exact rises_fold m none [] rfl (by simp [Rises]) h

section
variable {l : List LLeaf} {ps : List ByteArray}
theorem ahead_mono {p q : ByteArray} (h : ltP p q) : ahead l p ≤ ahead l q := by
  unfold ahead
  induction l with
  | nil => simp
  | cons x l ih =>
    simp only [List.filter_cons]
    by_cases h1 : Op.bytesLess x.place.toList p.toList = true
    · rw [if_pos h1, if_pos (less_trans _ _ _ h1 h)]; simpa using ih
    · rw [if_neg h1]
      by_cases h2 : Op.bytesLess x.place.toList q.toList = true
      · rw [if_pos h2]; simp only [List.length_cons]; omega
      · rw [if_neg h2]; exact ih
theorem seen_mono {i j : Nat} (h : i ≤ j) : (textL (l.take i)).length ≤ (textL (l.take j)).length := by
  have h1 : l.take i = (l.take j).take i := by rw [List.take_take, Nat.min_eq_left h]
  rw [h1]
  have h2 : textL (l.take j) = textL ((l.take j).take i) ++ textL ((l.take j).drop i) := by
    unfold textL
    rw [← List.map_append, ← List.filter_append, List.take_append_drop]
  rw [h2, List.length_append]; omega
theorem fr_le (k : Nat) : fr l ps k ≤ (textL l).length := by
  have := seen_mono (l := l) (i := ahead l (plAt ps k)) (j := l.length) (by unfold ahead; exact List.length_filter_le _ _)
  rw [List.take_length] at this
  exact this
theorem plAt_lt (h : Rises ps) {i j : Nat} (hij : i < j) (hj : j ≤ ps.length) (hi : 0 < i) : ltP (plAt ps i) (plAt ps j) := by
  obtain ⟨a, rfl⟩ : ∃ a, i = a + 1 := ⟨i - 1, by omega⟩
  obtain ⟨b, rfl⟩ : ∃ b, j = b + 1 := ⟨j - 1, by omega⟩
  have e : ∀ x (hx : x < ps.length), plAt ps (x + 1) = ps[x] := fun x hx => by unfold plAt; simp [hx]
  rw [e a (by omega), e b (by omega)]
  exact List.pairwise_iff_getElem.mp h a b (by omega) (by omega) (by omega)
theorem fr_mono (h : Rises ps) {i j : Nat} (hij : i ≤ j) (hj : j ≤ ps.length) : fr l ps i ≤ fr l ps j := by
  rcases Nat.eq_zero_or_pos i with h0 | h0
  · subst h0; rw [fr_zero]; omega
  rcases Nat.lt_or_eq_of_le hij with h1 | h1
  · exact seen_mono (ahead_mono (plAt_lt h h1 hj h0))
  · subst h1; omega
/-- Where a stretch ends. -/
def endOf (l : List LLeaf) (ps : List ByteArray) (k : Nat) : Nat := if k < ps.length then fr l ps (k + 1) else (textL l).length
theorem strL_len : (strL l ps).length = ps.length + 1 := by simp [strL, preL_len]
theorem strL_at {k : Nat} (hk : k ≤ ps.length) : (strL l ps)[k]? = some ⟨plAt ps k, fr l ps k, (endOf l ps k : Int) - fr l ps k⟩ := by
  unfold strL endOf
  rcases Nat.lt_or_eq_of_le hk with h1 | h1
  · rw [List.getElem?_append_left (by rw [preL_len]; exact h1), if_pos h1]
    simp [preL, h1, stAt]
  · subst h1
    rw [List.getElem?_append_right (by rw [preL_len]; exact Nat.le_refl _), if_neg (by omega), preL_len]
    simp
theorem fr_end (h : Rises ps) {k : Nat} (hk : k ≤ ps.length) : fr l ps k ≤ endOf l ps k := by
  unfold endOf
  split
  · exact fr_mono h (by omega) (by omega)
  · exact fr_le k
theorem end_le (k : Nat) : endOf l ps k ≤ (textL l).length := by
  unfold endOf
  split
  · exact fr_le _
  · omega
end
end Go.Proofs.YteiadcdaleckjaaDoor

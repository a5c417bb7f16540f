/- A letter is in the stretch in which its place is: plain. -/
import Derived.Test.YtgninfpdomcobaaDirs
namespace Go.Proofs.Ytgninfpdomcobaa
set_option linter.unusedVariables false
section
variable {l : List LLeaf} {ps : List ByteArray}
theorem textL_cons (x : LLeaf) (l : List LLeaf) : textL (x :: l) = (if seenB x = true then [u8 x.letter] else []) ++ textL l := by
  unfold textL
  rw [List.filter_cons]
  split <;> simp
theorem nth_seen : ∀ (l : List LLeaf) (k o : Nat), o < (textL l).length → ∃ n, ∃ hn : n < l.length, nthFrom k l (o : Int) = ((k + n : Nat) : Int) ∧ seenB l[n] = true ∧ (textL (l.take n)).length = o := by
  intro l
  induction l with
  | nil => intro k o h; simp [textL] at h
  | cons x l ih =>
    intro k o h
    rw [textL_cons] at h
    unfold nthFrom
    by_cases hs : seenB x = true
    · rw [if_pos hs] at h ⊢
      rcases Nat.eq_zero_or_pos o with h0 | h0
      · subst h0
        exact ⟨0, by simp, by simp, hs, by simp [textL]⟩
      · obtain ⟨o', rfl⟩ : ∃ o', o = o' + 1 := ⟨o - 1, by omega⟩
        simp only [List.length_append, List.length_cons, List.length_nil] at h
        obtain ⟨n, hn, h1, h2, h3⟩ := ih (k + 1) o' (by omega)
        refine ⟨n + 1, by simp; omega, ?_, by simpa using h2, ?_⟩
        · rw [if_neg (by omega), show ((o' + 1 : Nat) : Int) - 1 = (o' : Int) by omega, h1]; omega
        · rw [List.take_succ_cons, textL_cons, if_pos hs]; simp [h3]
    · rw [if_neg hs] at h ⊢
      obtain ⟨n, hn, h1, h2, h3⟩ := ih (k + 1) o (by simpa using h)
      refine ⟨n + 1, by simp; omega, by rw [h1]; omega, by simpa using h2, ?_⟩
      rw [List.take_succ_cons, textL_cons, if_neg hs]; simpa using h3
theorem ahead_split (i : Nat) (q : ByteArray) : ahead l q = ahead (l.take i) q + ahead (l.drop i) q := by
  unfold ahead
  rw [← List.length_append, ← List.filter_append, List.take_append_drop]
theorem ahead_gt (hr : Rising l) {n : Nat} (hn : n < l.length) {q : ByteArray} (h : ltP l[n].place q) : n + 1 ≤ ahead l q := by
  rw [ahead_split (n + 1) q]
  have h1 : ahead (l.take (n + 1)) q = n + 1 := by
    unfold ahead
    rw [List.filter_eq_self.2]
    · rw [List.length_take]; omega
    · intro x hx
      obtain ⟨j, hj, rfl⟩ := List.getElem_of_mem hx
      rw [List.length_take] at hj
      rw [List.getElem_take]
      rcases Nat.lt_or_eq_of_le (show j ≤ n by omega) with h2 | h2
      · exact ltP_trans (rising_lt hr j n (by omega) hn h2) h
      · subst h2; exact h
  omega
theorem ahead_le' (hr : Rising l) {n : Nat} (hn : n < l.length) {q : ByteArray} (h : ¬ ltP l[n].place q) : ahead l q ≤ n := by
  rw [ahead_split n q]
  have h1 : ahead (l.drop n) q = 0 := by
    unfold ahead
    rw [List.length_eq_zero_iff, List.filter_eq_nil_iff]
    intro x hx hlt
    obtain ⟨j, hj, rfl⟩ := List.getElem_of_mem hx
    rw [List.length_drop] at hj
    rw [List.getElem_drop] at hlt
    apply h
    rcases Nat.eq_zero_or_pos j with h2 | h2
    · subst h2; exact hlt
    · exact ltP_trans (rising_lt hr n (n + j) hn (by omega) (by omega)) hlt
  have h2 : ahead (l.take n) q ≤ n := by
    unfold ahead
    have := List.length_filter_le (fun x : LLeaf => Op.bytesLess x.place.toList q.toList) (l.take n)
    rw [List.length_take] at this; omega
  omega
/-- The stretch of a letter is the one of its offset. -/
theorem of_is (hr : Rising l) (hp : Rises ps) {n o k i : Nat} (hn : n < l.length) (hs : seenB l[n] = true) (ho : (textL (l.take n)).length = o) (hk : k ≤ ps.length) (h1 : fr l ps k ≤ o) (h2 : o < endOf l ps k)
    (hi : i ≤ ps.length) (a1 : i = 0 ∨ ¬ ltP l[n].place (plAt ps i)) (a2 : ∀ j, j ≤ ps.length → i < j → ltP l[n].place (plAt ps j)) : i = k := by
  rcases Nat.lt_trichotomy i k with h | h | h
  · exfalso
    have h3 := ahead_gt hr hn (a2 k hk h)
    have h4 := seen_mono (l := l) h3
    rw [textL_take hn, if_pos hs, List.length_append, ho] at h4
    unfold fr frOf at h1
    simp at h4
    omega
  · exact h
  · exfalso
    have h3 : ¬ ltP l[n].place (plAt ps i) := by rcases a1 with h0 | h0; · omega
                                                 · exact h0
    have h4 := seen_mono (l := l) (ahead_le' hr hn h3)
    rw [ho] at h4
    have h5 := fr_mono (l := l) hp (i := k + 1) (j := i) (by omega) hi
    unfold endOf at h2
    rw [if_pos (by omega)] at h2
    unfold fr frOf at h5
    unfold fr frOf at h2
    omega
end
end Go.Proofs.Ytgninfpdomcobaa

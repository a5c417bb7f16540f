/- The o-th leaf that is seen: plain. Conditions: none. -/
import Derived.Test.YtngalkmmpjegkaaBookAt
namespace Go.Proofs.Ytngalkmmpjegkaa
set_option linter.unusedVariables false
theorem textL_cons (x : LLeaf) (l : List LLeaf) : textL (x :: l) = (if seenB x = true then [u8 x.letter] else []) ++ textL l := by
  unfold textL
  rw [List.filter_cons]
  split <;> simp
theorem nth_seen : ∀ (l : List LLeaf) (k o : Nat), o < (textL l).length → ∃ n, ∃ hn : n < l.length, nthFrom k l (o : Int) = ((k + n : Nat) : Int) ∧ seenB l[n] = true ∧ (textL (l.take n)).length = o := by
  intro l
  induction l with
  | nil => intro k o h; simp [textL] at h
  | cons x l ih =>
    intro k o h
    rw [textL_cons] at h
    unfold nthFrom
    by_cases hs : seenB x = true
    · rw [if_pos hs] at h ⊢
      rcases Nat.eq_zero_or_pos o with h0 | h0
      · subst h0
        exact ⟨0, by simp, by simp, hs, by simp [textL]⟩
      · obtain ⟨o', rfl⟩ : ∃ o', o = o' + 1 := ⟨o - 1, by omega⟩
        simp only [List.length_append, List.length_cons, List.length_nil] at h
        obtain ⟨n, hn, h1, h2, h3⟩ := ih (k + 1) o' (by omega)
        refine ⟨n + 1, by simp; omega, ?_, by simpa using h2, ?_⟩
        · rw [if_neg (by omega), show ((o' + 1 : Nat) : Int) - 1 = (o' : Int) by omega, h1]; omega
        · rw [List.take_succ_cons, textL_cons, if_pos hs]; simp [h3]
    · rw [if_neg hs] at h ⊢
      obtain ⟨n, hn, h1, h2, h3⟩ := ih (k + 1) o (by simpa using h)
      refine ⟨n + 1, by simp; omega, by rw [h1]; omega, by simpa using h2, ?_⟩
      rw [List.take_succ_cons, textL_cons, if_neg hs]; simpa using h3
end Go.Proofs.Ytngalkmmpjegkaa

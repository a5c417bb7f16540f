/- The least cost from one text to another one, reckoned row by row over their beginnings. Plain. Conditions: none. -/
import Derived.Test.YteiadcdaleckjaaDoorDiffLaw
namespace Go.Proofs.YteiadcdaleckjaaDoor
namespace Df
theorem lcs_rev (a b : List UInt8) : lcs a.reverse b.reverse = lcs a b := by
  have key : ∀ x y : List UInt8, lcs x y ≤ lcs x.reverse y.reverse := fun x y => by
    obtain ⟨s, h1, h2, h3⟩ := lcs_has x y
    have := lcs_most x.reverse y.reverse s.reverse (List.reverse_sublist.2 h1) (List.reverse_sublist.2 h2)
    rw [List.length_reverse] at this
    omega
  have h1 := key a b
  have h2 := key a.reverse b.reverse
  rw [List.reverse_reverse, List.reverse_reverse] at h2
  omega
theorem lcs_snoc_same (x : UInt8) (a b : List UInt8) : lcs (a ++ [x]) (b ++ [x]) = lcs a b + 1 := by
  rw [← lcs_rev, List.reverse_append, List.reverse_append]
  show lcs (x :: a.reverse) (x :: b.reverse) = _
  rw [lcs_same, lcs_rev]
theorem lcs_snoc_other {x y : UInt8} (h : x ≠ y) (a b : List UInt8) : lcs (a ++ [x]) (b ++ [y]) = max (lcs a (b ++ [y])) (lcs (a ++ [x]) b) := by
  rw [← lcs_rev, ← lcs_rev a (b ++ [y]), ← lcs_rev (a ++ [x]) b, List.reverse_append, List.reverse_append]
  show lcs (x :: a.reverse) (y :: b.reverse) = max (lcs a.reverse (y :: b.reverse)) (lcs (x :: a.reverse) b.reverse)
  rw [lcs_other h]
theorem lcs_comm (a b : List UInt8) : lcs a b = lcs b a := by
  have key : ∀ x y : List UInt8, lcs x y ≤ lcs y x := fun x y => by
    obtain ⟨s, h1, h2, h3⟩ := lcs_has x y
    have := lcs_most y x s h2 h1
    omega
  have h1 := key a b
  have h2 := key b a
  omega
theorem lcs_snoc_le (x : UInt8) (a b : List UInt8) : lcs (a ++ [x]) b ≤ lcs a b + 1 := by
  obtain ⟨s, h1, h2, h3⟩ := lcs_has (a ++ [x]) b
  obtain ⟨s1, s2, e, g1, g2⟩ := List.sublist_append_iff.1 h1
  subst e
  have h4 : s2.length ≤ 1 := g2.length_le
  have h5 := lcs_most a b s1 g1 ((List.sublist_append_left s1 s2).trans h2)
  rw [List.length_append] at h3
  omega
/-- How many letters must be struck and written from one text to the other. -/
def dd (a b : List UInt8) : Nat := a.length + b.length - 2 * lcs a b
theorem dd_nil (b : List UInt8) : dd [] b = b.length := by unfold dd; rw [lcs_nil]; simp
theorem dd_nil_right (a : List UInt8) : dd a [] = a.length := by unfold dd; rw [lcs_nil_right]; simp
/-- The step of the row: what stands above, at the left, and athwart. -/
def step (up left diag : Int) (same : Bool) : Int :=
  if same = true ∧ diag < (if left + 1 < up + 1 then left + 1 else up + 1) then diag else if left + 1 < up + 1 then left + 1 else up + 1
theorem dd_snoc (x y : UInt8) (a b : List UInt8) : (dd (a ++ [x]) (b ++ [y]) : Int) = step (dd a (b ++ [y])) (dd (a ++ [x]) b) (dd a b) (x == y) := by
  have h0 := lcs_le a b
  have h1 := lcs_le a (b ++ [y])
  have h2 := lcs_le (a ++ [x]) b
  have h3 := lcs_snoc_le x a b
  have h4 : lcs a (b ++ [y]) ≤ lcs a b + 1 := by rw [lcs_comm, lcs_comm a b]; exact lcs_snoc_le y b a
  simp only [List.length_append, List.length_cons, List.length_nil] at h1 h2
  unfold step dd
  simp only [List.length_append, List.length_cons, List.length_nil]
  by_cases h : x = y
  · subst h
    have h5 := lcs_snoc_same x a b
    rw [h5]
    simp only [beq_self_eq_true, true_and]
    split
    · omega
    · split <;> omega
  · have h5 := lcs_snoc_other h a b
    have h6 : (x == y) = false := by simpa using h
    rw [h5, h6]
    rw [if_neg (by rintro ⟨h7, _⟩; cases h7)]
    split <;> omega
end Df
end Go.Proofs.YteiadcdaleckjaaDoor

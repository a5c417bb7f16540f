/- book.Text, Nth, At, walked; what a book that is right has. Conditions: stated with each. -/
import Derived.Test.YthfbjfocmnikaaaGreatDoorBookText
namespace Go.Proofs.YthfbjfocmnikaaaGreatDoor
open Go.RowKit
set_option linter.unusedVariables false

/-- A leaf that is right. -/
structure LLeaf.Ok (x : LLeaf) : Prop where
  place : placeErr x.place = 0
  letter : x.letter ≠ 0 → 32 ≤ x.letter ∧ x.letter ≤ 126
  struck : x.letter = 0 → x.struck = true
theorem leaf_ok {prev : Option LLeaf} {x : LLeaf} (h : leafErr prev x = 0) : x.Ok ∧ ∀ p, prev = some p → Op.bytesLess p.place.toList x.place.toList = true := by
  unfold leafErr at h
  by_cases h1 : placeErr x.place ≠ 0
  · rw [if_pos h1] at h; exact absurd h h1
  rw [if_neg h1] at h
  by_cases h2 : x.letter ≠ 0 ∧ letterB x.letter = false
  · rw [if_pos h2] at h; omega
  rw [if_neg h2] at h
  by_cases h3 : x.letter = 0 ∧ x.struck = false
  · rw [if_pos h3] at h; omega
  rw [if_neg h3] at h
  refine ⟨⟨by omega, fun hn => ?_, fun hn => ?_⟩, ?_⟩
  · have hl : letterB x.letter = true := by
      cases hl : letterB x.letter
      · exact absurd ⟨hn, hl⟩ h2
      · rfl
    simp [letterB] at hl
    exact hl
  · cases hs : x.struck
    · exact absurd ⟨hn, hs⟩ h3
    · rfl
  · rintro p rfl
    cases hl : Op.bytesLess p.place.toList x.place.toList
    · rw [if_pos hl] at h; omega
    · rfl
/-- Places rise. -/
def Rising : List LLeaf → Prop
  | [] => True
  | x :: l => (∀ y, l.head? = some y → Op.bytesLess x.place.toList y.place.toList = true) ∧ Rising l
theorem fault_ok {prev : Option LLeaf} {l : List LLeaf} (h : bookFault prev l = 0) : (∀ x ∈ l, x.Ok) ∧ Rising l ∧ ∀ p y, prev = some p → l.head? = some y → Op.bytesLess p.place.toList y.place.toList = true := by
  induction l generalizing prev with
  | nil => exact ⟨by simp, trivial, by simp⟩
  | cons x l ih =>
    rw [bookFault] at h
    by_cases h1 : leafErr prev x ≠ 0
    · rw [if_pos h1] at h; exact absurd h h1
    · rw [if_neg h1] at h
      obtain ⟨i1, i2, i3⟩ := ih h
      obtain ⟨k1, k2⟩ := leaf_ok (show leafErr prev x = 0 by omega)
      refine ⟨fun y hy => ?_, ⟨fun y hy => i3 x y rfl hy, i2⟩, fun p y hp hy => ?_⟩
      · rcases List.mem_cons.1 hy with rfl | hy
        · exact k1
        · exact i1 y hy
      · simp at hy; subst hy; exact k2 p hp
structure BookOk (l : List LLeaf) : Prop where
  few : l.length ≤ 300
  leafs : ∀ x ∈ l, x.Ok
  rising : Rising l
theorem book_ok {l : List LLeaf} (h : bookErr l = 0) : BookOk l := by
  unfold bookErr at h
  by_cases h1 : 300 < l.length
  · rw [if_pos h1] at h; omega
  · rw [if_neg h1] at h
    obtain ⟨i1, i2, _⟩ := fault_ok h
    exact ⟨by omega, i1, i2⟩
theorem Fit.sub {l m : List LLeaf} (h : Fit l) (hm : ∀ x ∈ m, x ∈ l) : Fit m := fun x hx => h x (hm x hx)

/-- The place in the list of the o-th leaf that is seen, from k on; below 0: none. -/
def nthFrom : Nat → List LLeaf → Int → Int
  | _, [], _ => -1
  | k, x :: l, o => if seenB x = true then (if o = 0 then (k : Int) else nthFrom (k + 1) l (o - 1)) else nthFrom (k + 1) l o
end Go.Proofs.YthfbjfocmnikaaaGreatDoor

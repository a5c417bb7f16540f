/- slices.Clone of leafs, book.put, book.ready, walked. Conditions: a book that is not too long. -/
import Derived.Test.YtpofdjikogoobaaDoorInsLeaf
import Derived.Test.YtpofdjikogoobaaDoorBookFind
namespace Go.Proofs.YtpofdjikogoobaaDoor
open Go.RowKit
set_option linter.unusedVariables false
def ClonePost (w : World) (e0 : TypeId) (size n : Nat) (xs : List Value) (e : Ending) (w' : World) : Prop := ∃ A' c', e = .returned (.slice A' n c') ∧ Own w' w.heap.size e0 size A' n c' xs ∧ Below w.heap.size w w'
/-- A book with one leaf more. -/
def bookPut (l : List LLeaf) (i : Nat) (x : LLeaf) : List LLeaf := l.take i ++ x :: l.drop i
theorem lcells_take (l : List LLeaf) (i : Nat) : (lcells l).take (i * 3) = lcells (l.take i) := by
  induction l generalizing i with
  | nil => simp [lcells]
  | cons x l ih =>
    cases i with
    | zero => simp [lcells]
    | succ i =>
      show (x.cells ++ lcells l).take ((i + 1) * 3) = x.cells ++ lcells (l.take i)
      rw [← ih, List.take_append, List.take_of_length_le (by simp [LLeaf.cells]; omega), show (i + 1) * 3 - x.cells.length = i * 3 by simp [LLeaf.cells]; omega]
theorem lcells_drop (l : List LLeaf) (i : Nat) : (lcells l).drop (i * 3) = lcells (l.drop i) := by
  induction l generalizing i with
  | nil => simp [lcells]
  | cons x l ih =>
    cases i with
    | zero => simp [lcells]
    | succ i =>
      show (x.cells ++ lcells l).drop ((i + 1) * 3) = lcells (l.drop i)
      rw [← ih, List.drop_append, List.drop_of_length_le (by simp [LLeaf.cells]; omega), show (i + 1) * 3 - x.cells.length = i * 3 by simp [LLeaf.cells]; omega, List.nil_append]
theorem lcells_put (l : List LLeaf) (i : Nat) (x : LLeaf) : (lcells l).take (i * 3) ++ x.cells ++ (lcells l).drop (i * 3) = lcells (bookPut l i x) := by
  rw [lcells_take, lcells_drop]; simp [bookPut, lcells]
theorem bookPut_len (l : List LLeaf) (i : Nat) (x : LLeaf) (hi : i ≤ l.length) : (bookPut l i x).length = l.length + 1 := by simp [bookPut]; omega

/-- A book and an error are given back; the book is of the call's own. -/
def LeafsPost (w : World) (l : List LLeaf) (k : Int) (e : Ending) (w' : World) : Prop :=
  ∃ V c, e = .returned (.tuple #[.slice V l.length c, errV k]) ∧ Own w' w.heap.size 54 3 V l.length c (lcells l) ∧ Below w.heap.size w w'
theorem leafs_none {w w' : World} {k : Int} (hb : Below w.heap.size w w') : LeafsPost w [] k (.returned (.tuple #[.slice none 0 0, errV k])) w' := ⟨none, 0, rfl, Own.nil _ _ _ _, hb⟩
theorem blk_new_at {w : World} {k : Nat} {t : TypeId} {cs : Array Value} (h : w.heap.size = k) : Blk (w.alloc (.cells cs t)) k t cs := h ▸ Blk.new w t cs
def putErr (l : List LLeaf) : Int := if 300 ≤ l.length then 4 else 0
def putRes (l : List LLeaf) (i : Nat) (x : LLeaf) : List LLeaf := if 300 ≤ l.length then [] else bookPut l i x
end Go.Proofs.YtpofdjikogoobaaDoor

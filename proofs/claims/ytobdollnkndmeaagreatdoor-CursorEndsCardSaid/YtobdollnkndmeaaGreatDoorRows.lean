/-
  NARROWER THAN 'FOR EVERY INPUT', by the rows' own cells (each row's printed sentence says how): DocPlays: laid · EditTypes: laid · CursorEnds: laid · EditTells: laid.
  DERIVED. THE GIVEN ROWS OF THIS SEAT. 4 by the template 'for every input the law returns true; each argument reads behind the call as it read before'; 0 by the template 'total and deterministic' (their statements: YtobdollnkndmeaaGreatDoorTotals.lean).
  GIVEN WITH THE SEED: the statements are not yours to turn. If you find one false, say at which input.
  Laid BY PROGRAM, IN A SANDBOX (cutbox-rows.mjs): the forced cells as the released guide's own fill.sh prints them over the translation 26f8677c3e7dfa1b… (all of the seat's roots in one cut). By AI agents, Wed Nov 11 2026. No macro, syntax, notation, axiom, sorry.
-/
import Derived.Test.YtobdollnkndmeaaGreatDoorChecked
import GoSem.Claim
import GoSem.ClaimJoined
import GoSem.ClaimMapViews
import Derived.JoinedTies
import Derived.KernelRfl
namespace Go.Proofs.YtobdollnkndmeaaGreatDoor
/- THE CELL 'sum', in the pinned program and in every row, IS THE sha256 OF THE DUMP (.gsa) THAT YtobdollnkndmeaaGreatDoorProg.lean LOADS. Nothing in Lean hashes anything: it is a label: what it is worth is what the hold of that sum in a sandbox is worth. -/
noncomputable def Tryz.pinned : Pinned := { name := "ytobdollnkndmeaagreatdoor", sum := "26f8677c3e7dfa1b439b13818b6ef901259416750ec42218354eb165a3fe8339", checked := Tryz.checked }
namespace Rows
def none {H : Type} : Left H := { results := [], args := [] }

/- WHAT THE LISTED PACKAGE-LEVEL VARIABLES READ AS WHEN THE CALL BEGINS. Each datum BY PROGRAM (the guide's laid-datum.mjs) off the statement by which the dump's own 'gosem.cut.vars' lays the variable. In a bare row this is a premise. The card (YtobdollnkndmeaaGreatDoorCards.lean) ties it to the program's text. -/
def laid_errors_errorType {H : Type} : DataW H := .iface "internal/reflectlite.rtype" (.agg [.ptr (.lit (.string [101, 114, 114, 111, 114]))])

/-- 'leaflaw1.DocPlays': WHATEVER THE INPUT: true; the input reads as it did. -/
def docPlaysSpec : ChangeSpec := { name := "docPlays", fn := fun _ => fun
  | [d] => { results := [.lit (.bool true)], args := [d] }
  | _ => none }
def docPlaysRow : OpenClaim := { program := "ytobdollnkndmeaagreatdoor", sum := "26f8677c3e7dfa1b439b13818b6ef901259416750ec42218354eb165a3fe8339", func := "leafbinder/leaflaw1.DocPlays", spec := "docPlays", inPlace := ["internal/bytealg.abigen_runtime_cmpstring", "slices.overlaps[leafbinder/api.Mark]", "slices.overlaps[leafbinder/api.Leaf]", "internal/reflectlite.ValueOf", "(internal/reflectlite.Value).Type", "(internal/reflectlite.Value).IsNil", "internal/reflectlite.TypeOf", "(internal/reflectlite.Value).Elem", "(internal/reflectlite.Value).Set"], unfollowed := true, recurses := true, named := ["errors.errorType"], plainKeys := false, apart := false, laid := [("errors.errorType", laid_errors_errorType)] }
def DocPlaysSaid : Prop := docPlaysRow.holds Tryz.pinned (OpenSpec.ofChange docPlaysSpec)

/-- ITS FALSE NEIGHBOUR: 'it returns false'. Refute it at one input. -/
def docPlaysWrong : ChangeSpec := { name := "docPlays", fn := fun _ => fun
  | [d] => { results := [.lit (.bool false)], args := [d] }
  | _ => none }
def DocPlaysWrongFalsely : Prop := docPlaysRow.holds Tryz.pinned (OpenSpec.ofChange docPlaysWrong)

/-- 'leaflaw4.EditTypes': WHATEVER THE INPUT: true; the input reads as it did. -/
def editTypesSpec : ChangeSpec := { name := "editTypes", fn := fun _ => fun
  | [d1, d2, d3] => { results := [.lit (.bool true)], args := [d1, d2, d3] }
  | _ => none }
def editTypesRow : OpenClaim := { program := "ytobdollnkndmeaagreatdoor", sum := "26f8677c3e7dfa1b439b13818b6ef901259416750ec42218354eb165a3fe8339", func := "leafbinder/leaflaw4.EditTypes", spec := "editTypes", inPlace := ["internal/reflectlite.ValueOf", "(internal/reflectlite.Value).Type", "(internal/reflectlite.Value).IsNil", "internal/reflectlite.TypeOf", "(internal/reflectlite.Value).Elem", "(internal/reflectlite.Value).Set", "internal/bytealg.abigen_runtime_cmpstring", "slices.overlaps[leafbinder/api.Mark]", "slices.overlaps[leafbinder/api.Leaf]"], unfollowed := true, recurses := true, named := ["errors.errorType"], plainKeys := false, apart := false, laid := [("errors.errorType", laid_errors_errorType)] }
def EditTypesSaid : Prop := editTypesRow.holds Tryz.pinned (OpenSpec.ofChange editTypesSpec)

/-- ITS FALSE NEIGHBOUR: 'it returns false'. Refute it at one input. -/
def editTypesWrong : ChangeSpec := { name := "editTypes", fn := fun _ => fun
  | [d1, d2, d3] => { results := [.lit (.bool false)], args := [d1, d2, d3] }
  | _ => none }
def EditTypesWrongFalsely : Prop := editTypesRow.holds Tryz.pinned (OpenSpec.ofChange editTypesWrong)

/-- 'leaflaw4.CursorEnds': WHATEVER THE INPUT: true; the input reads as it did. -/
def cursorEndsSpec : ChangeSpec := { name := "cursorEnds", fn := fun _ => fun
  | [d1, d2, d3] => { results := [.lit (.bool true)], args := [d1, d2, d3] }
  | _ => none }
def cursorEndsRow : OpenClaim := { program := "ytobdollnkndmeaagreatdoor", sum := "26f8677c3e7dfa1b439b13818b6ef901259416750ec42218354eb165a3fe8339", func := "leafbinder/leaflaw4.CursorEnds", spec := "cursorEnds", inPlace := ["internal/bytealg.abigen_runtime_cmpstring", "slices.overlaps[leafbinder/api.Mark]", "slices.overlaps[leafbinder/api.Leaf]", "internal/reflectlite.ValueOf", "(internal/reflectlite.Value).Type", "(internal/reflectlite.Value).IsNil", "internal/reflectlite.TypeOf", "(internal/reflectlite.Value).Elem", "(internal/reflectlite.Value).Set"], unfollowed := true, recurses := true, named := ["errors.errorType"], plainKeys := false, apart := false, laid := [("errors.errorType", laid_errors_errorType)] }
def CursorEndsSaid : Prop := cursorEndsRow.holds Tryz.pinned (OpenSpec.ofChange cursorEndsSpec)

/-- ITS FALSE NEIGHBOUR: 'it returns false'. Refute it at one input. -/
def cursorEndsWrong : ChangeSpec := { name := "cursorEnds", fn := fun _ => fun
  | [d1, d2, d3] => { results := [.lit (.bool false)], args := [d1, d2, d3] }
  | _ => none }
def CursorEndsWrongFalsely : Prop := cursorEndsRow.holds Tryz.pinned (OpenSpec.ofChange cursorEndsWrong)

/-- 'leaflaw2.EditTells': WHATEVER THE INPUT: true; the input reads as it did. -/
def editTellsSpec : ChangeSpec := { name := "editTells", fn := fun _ => fun
  | [d1, d2, d3, d4, d5] => { results := [.lit (.bool true)], args := [d1, d2, d3, d4, d5] }
  | _ => none }
def editTellsRow : OpenClaim := { program := "ytobdollnkndmeaagreatdoor", sum := "26f8677c3e7dfa1b439b13818b6ef901259416750ec42218354eb165a3fe8339", func := "leafbinder/leaflaw2.EditTells", spec := "editTells", inPlace := ["internal/bytealg.abigen_runtime_cmpstring", "slices.overlaps[leafbinder/api.Mark]", "slices.overlaps[leafbinder/api.Leaf]", "internal/reflectlite.ValueOf", "(internal/reflectlite.Value).Type", "(internal/reflectlite.Value).IsNil", "internal/reflectlite.TypeOf", "(internal/reflectlite.Value).Elem", "(internal/reflectlite.Value).Set"], unfollowed := true, recurses := true, named := ["errors.errorType"], plainKeys := false, apart := false, laid := [("errors.errorType", laid_errors_errorType)] }
def EditTellsSaid : Prop := editTellsRow.holds Tryz.pinned (OpenSpec.ofChange editTellsSpec)

/-- ITS FALSE NEIGHBOUR: 'it returns false'. Refute it at one input. -/
def editTellsWrong : ChangeSpec := { name := "editTells", fn := fun _ => fun
  | [d1, d2, d3, d4, d5] => { results := [.lit (.bool false)], args := [d1, d2, d3, d4, d5] }
  | _ => none }
def EditTellsWrongFalsely : Prop := editTellsRow.holds Tryz.pinned (OpenSpec.ofChange editTellsWrong)

/- THE SECOND FORM. 'bulk': how many values and letters a reading holds, each counted each time it is reached (what is shared counts as often as it is met; a slice's spare places count too). A statement '..UptoSaid' is the law's where the arguments, and the package variables that the reading takes, are together of bulk at most 1048576: NARROWER than '..Said'. Prove '..Said' where nothing that the law and all that it calls make is longer than what came in: it says more and counts as full. Else prove '..UptoSaid'. A law counts once. -/
mutual
def uptoBulk {H : Type} : DataW H → Nat
  | .lit (.string bytes) => bytes.length + 1
  | .lit _ => 1
  | .nil => 1
  | .ptr d => uptoBulk d + 1
  | .slice elems spare => uptoBulkAll elems + uptoBulkAll spare + 1
  | .agg parts => uptoBulkAll parts + 1
  | .iface _ d => uptoBulk d + 1
  | .map entries => uptoBulkEntries entries + 1
  | .held _ => 1
def uptoBulkAll {H : Type} : List (DataW H) → Nat
  | [] => 0
  | d :: r => uptoBulk d + uptoBulkAll r
def uptoBulkEntries {H : Type} : List (Lit × DataW H) → Nat
  | [] => 0
  | x :: r => uptoBulkEntry x + uptoBulkEntries r
def uptoBulkEntry {H : Type} : Lit × DataW H → Nat
  | (.string bytes, d) => bytes.length + uptoBulk d + 1
  | (_, d) => uptoBulk d + 1
 end
def uptoSmall : (H : Type) → List (DataW H) → Bool := fun _ ds => decide (uptoBulkAll ds ≤ 1048576)
def OpenSpec.upto (s : _root_.Go.ChangeSpec) : _root_.Go.OpenSpec := { _root_.Go.OpenSpec.ofChange s with cond := some uptoSmall }

/-- 'leaflaw1.DocPlays', WHERE WHAT IT READS IS OF BULK AT MOST 1048576: true; the input reads as it did. -/
def docPlaysUptoRow : OpenClaim := { program := "ytobdollnkndmeaagreatdoor", sum := "26f8677c3e7dfa1b439b13818b6ef901259416750ec42218354eb165a3fe8339", func := "leafbinder/leaflaw1.DocPlays", spec := "docPlays", inPlace := ["internal/bytealg.abigen_runtime_cmpstring", "slices.overlaps[leafbinder/api.Mark]", "slices.overlaps[leafbinder/api.Leaf]", "internal/reflectlite.ValueOf", "(internal/reflectlite.Value).Type", "(internal/reflectlite.Value).IsNil", "internal/reflectlite.TypeOf", "(internal/reflectlite.Value).Elem", "(internal/reflectlite.Value).Set"], unfollowed := true, recurses := true, named := ["errors.errorType"], plainKeys := false, apart := false, laid := [("errors.errorType", laid_errors_errorType)], narrowed := true }
def DocPlaysUptoSaid : Prop := docPlaysUptoRow.holds Tryz.pinned (OpenSpec.upto docPlaysSpec)

/-- 'leaflaw4.EditTypes', WHERE WHAT IT READS IS OF BULK AT MOST 1048576: true; the input reads as it did. -/
def editTypesUptoRow : OpenClaim := { program := "ytobdollnkndmeaagreatdoor", sum := "26f8677c3e7dfa1b439b13818b6ef901259416750ec42218354eb165a3fe8339", func := "leafbinder/leaflaw4.EditTypes", spec := "editTypes", inPlace := ["internal/reflectlite.ValueOf", "(internal/reflectlite.Value).Type", "(internal/reflectlite.Value).IsNil", "internal/reflectlite.TypeOf", "(internal/reflectlite.Value).Elem", "(internal/reflectlite.Value).Set", "internal/bytealg.abigen_runtime_cmpstring", "slices.overlaps[leafbinder/api.Mark]", "slices.overlaps[leafbinder/api.Leaf]"], unfollowed := true, recurses := true, named := ["errors.errorType"], plainKeys := false, apart := false, laid := [("errors.errorType", laid_errors_errorType)], narrowed := true }
def EditTypesUptoSaid : Prop := editTypesUptoRow.holds Tryz.pinned (OpenSpec.upto editTypesSpec)

/-- 'leaflaw4.CursorEnds', WHERE WHAT IT READS IS OF BULK AT MOST 1048576: true; the input reads as it did. -/
def cursorEndsUptoRow : OpenClaim := { program := "ytobdollnkndmeaagreatdoor", sum := "26f8677c3e7dfa1b439b13818b6ef901259416750ec42218354eb165a3fe8339", func := "leafbinder/leaflaw4.CursorEnds", spec := "cursorEnds", inPlace := ["internal/bytealg.abigen_runtime_cmpstring", "slices.overlaps[leafbinder/api.Mark]", "slices.overlaps[leafbinder/api.Leaf]", "internal/reflectlite.ValueOf", "(internal/reflectlite.Value).Type", "(internal/reflectlite.Value).IsNil", "internal/reflectlite.TypeOf", "(internal/reflectlite.Value).Elem", "(internal/reflectlite.Value).Set"], unfollowed := true, recurses := true, named := ["errors.errorType"], plainKeys := false, apart := false, laid := [("errors.errorType", laid_errors_errorType)], narrowed := true }
def CursorEndsUptoSaid : Prop := cursorEndsUptoRow.holds Tryz.pinned (OpenSpec.upto cursorEndsSpec)

/-- 'leaflaw2.EditTells', WHERE WHAT IT READS IS OF BULK AT MOST 1048576: true; the input reads as it did. -/
def editTellsUptoRow : OpenClaim := { program := "ytobdollnkndmeaagreatdoor", sum := "26f8677c3e7dfa1b439b13818b6ef901259416750ec42218354eb165a3fe8339", func := "leafbinder/leaflaw2.EditTells", spec := "editTells", inPlace := ["internal/bytealg.abigen_runtime_cmpstring", "slices.overlaps[leafbinder/api.Mark]", "slices.overlaps[leafbinder/api.Leaf]", "internal/reflectlite.ValueOf", "(internal/reflectlite.Value).Type", "(internal/reflectlite.Value).IsNil", "internal/reflectlite.TypeOf", "(internal/reflectlite.Value).Elem", "(internal/reflectlite.Value).Set"], unfollowed := true, recurses := true, named := ["errors.errorType"], plainKeys := false, apart := false, laid := [("errors.errorType", laid_errors_errorType)], narrowed := true }
def EditTellsUptoSaid : Prop := editTellsUptoRow.holds Tryz.pinned (OpenSpec.upto editTellsSpec)

end Rows
end Go.Proofs.YtobdollnkndmeaaGreatDoor

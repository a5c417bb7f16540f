/-
  NARROWER THAN 'FOR EVERY INPUT', by the rows' own cells (each row's printed sentence says how): LogKeeps: laid · FindTells: laid · CausalPlays: laid · CausalMeets: laid · NetPlays: laid · TopTogether: laid.
  DERIVED. THE GIVEN ROWS OF THIS SEAT. 6 by the template 'for every input the law returns true; each argument reads behind the call as it read before'; 0 by the template 'total and deterministic' (their statements: YthfbjfocmnikaaaGreatDoorTotals.lean).
  GIVEN WITH THE SEED: the statements are not yours to turn. If you find one false, say at which input.
  Laid BY PROGRAM, IN A SANDBOX (cutbox-rows.mjs): the forced cells as the released guide's own fill.sh prints them over the translation 2523b92e7dbb63fb… (all of the seat's roots in one cut). By AI agents, Wed Nov 11 2026. No macro, syntax, notation, axiom, sorry.
-/
import Derived.Test.YthfbjfocmnikaaaGreatDoorChecked
import GoSem.Claim
import GoSem.ClaimJoined
import GoSem.ClaimMapViews
import Derived.JoinedTies
import Derived.KernelRfl
namespace Go.Proofs.YthfbjfocmnikaaaGreatDoor
/- THE CELL 'sum', in the pinned program and in every row, IS THE sha256 OF THE DUMP (.gsa) THAT YthfbjfocmnikaaaGreatDoorProg.lean LOADS. Nothing in Lean hashes anything: it is a label: what it is worth is what the hold of that sum in a sandbox is worth. -/
noncomputable def Tryz.pinned : Pinned := { name := "ythfbjfocmnikaaagreatdoor", sum := "2523b92e7dbb63fb7c25ab5f1671a83cf4daa12238e89558ce3a08e99b983f76", checked := Tryz.checked }
namespace Rows
def none {H : Type} : Left H := { results := [], args := [] }

/- WHAT THE LISTED PACKAGE-LEVEL VARIABLES READ AS WHEN THE CALL BEGINS. Each datum BY PROGRAM (the guide's laid-datum.mjs) off the statement by which the dump's own 'gosem.cut.vars' lays the variable. In a bare row this is a premise. The card (YthfbjfocmnikaaaGreatDoorCards.lean) ties it to the program's text. -/
def laid_errors_errorType {H : Type} : DataW H := .iface "internal/reflectlite.rtype" (.agg [.ptr (.lit (.string [101, 114, 114, 111, 114]))])

/-- 'leaflaw3.LogKeeps': WHATEVER THE INPUT: true; the input reads as it did. -/
def logKeepsSpec : ChangeSpec := { name := "logKeeps", fn := fun _ => fun
  | [d1, d2, d3, d4] => { results := [.lit (.bool true)], args := [d1, d2, d3, d4] }
  | _ => none }
def logKeepsRow : OpenClaim := { program := "ythfbjfocmnikaaagreatdoor", sum := "2523b92e7dbb63fb7c25ab5f1671a83cf4daa12238e89558ce3a08e99b983f76", func := "leafbinder/leaflaw3.LogKeeps", spec := "logKeeps", inPlace := ["internal/bytealg.abigen_runtime_cmpstring", "slices.overlaps[leafbinder/api.Mark]", "slices.overlaps[leafbinder/api.Leaf]", "internal/reflectlite.ValueOf", "(internal/reflectlite.Value).Type", "(internal/reflectlite.Value).IsNil", "internal/reflectlite.TypeOf", "(internal/reflectlite.Value).Elem", "(internal/reflectlite.Value).Set"], unfollowed := true, recurses := true, named := ["errors.errorType"], plainKeys := false, apart := false, laid := [("errors.errorType", laid_errors_errorType)] }
def LogKeepsSaid : Prop := logKeepsRow.holds Tryz.pinned (OpenSpec.ofChange logKeepsSpec)

/-- ITS FALSE NEIGHBOUR: 'it returns false'. Refute it at one input. -/
def logKeepsWrong : ChangeSpec := { name := "logKeeps", fn := fun _ => fun
  | [d1, d2, d3, d4] => { results := [.lit (.bool false)], args := [d1, d2, d3, d4] }
  | _ => none }
def LogKeepsWrongFalsely : Prop := logKeepsRow.holds Tryz.pinned (OpenSpec.ofChange logKeepsWrong)

/-- 'leaflaw3.FindTells': WHATEVER THE INPUT: true; the input reads as it did. -/
def findTellsSpec : ChangeSpec := { name := "findTells", fn := fun _ => fun
  | [d1, d2, d3, d4, d5, d6] => { results := [.lit (.bool true)], args := [d1, d2, d3, d4, d5, d6] }
  | _ => none }
def findTellsRow : OpenClaim := { program := "ythfbjfocmnikaaagreatdoor", sum := "2523b92e7dbb63fb7c25ab5f1671a83cf4daa12238e89558ce3a08e99b983f76", func := "leafbinder/leaflaw3.FindTells", spec := "findTells", inPlace := ["internal/bytealg.IndexByteString", "internal/bytealg.IndexString", "internal/reflectlite.ValueOf", "(internal/reflectlite.Value).Type", "(internal/reflectlite.Value).IsNil", "internal/reflectlite.TypeOf", "(internal/reflectlite.Value).Elem", "(internal/reflectlite.Value).Set", "internal/bytealg.abigen_runtime_cmpstring", "slices.overlaps[leafbinder/api.Mark]", "slices.overlaps[leafbinder/api.Leaf]"], unfollowed := true, recurses := true, named := ["internal/bytealg.MaxLen", "errors.errorType"], plainKeys := false, apart := false, laid := [("errors.errorType", laid_errors_errorType)] }
def FindTellsSaid : Prop := findTellsRow.holds Tryz.pinned (OpenSpec.ofChange findTellsSpec)

/-- ITS FALSE NEIGHBOUR: 'it returns false'. Refute it at one input. -/
def findTellsWrong : ChangeSpec := { name := "findTells", fn := fun _ => fun
  | [d1, d2, d3, d4, d5, d6] => { results := [.lit (.bool false)], args := [d1, d2, d3, d4, d5, d6] }
  | _ => none }
def FindTellsWrongFalsely : Prop := findTellsRow.holds Tryz.pinned (OpenSpec.ofChange findTellsWrong)

/-- 'leaflaw2.CausalPlays': WHATEVER THE INPUT: true; the input reads as it did. -/
def causalPlaysSpec : ChangeSpec := { name := "causalPlays", fn := fun _ => fun
  | [d] => { results := [.lit (.bool true)], args := [d] }
  | _ => none }
def causalPlaysRow : OpenClaim := { program := "ythfbjfocmnikaaagreatdoor", sum := "2523b92e7dbb63fb7c25ab5f1671a83cf4daa12238e89558ce3a08e99b983f76", func := "leafbinder/leaflaw2.CausalPlays", spec := "causalPlays", inPlace := ["internal/bytealg.abigen_runtime_cmpstring", "slices.overlaps[leafbinder/api.Mark]", "slices.overlaps[leafbinder/api.Leaf]", "internal/reflectlite.ValueOf", "(internal/reflectlite.Value).Type", "(internal/reflectlite.Value).IsNil", "internal/reflectlite.TypeOf", "(internal/reflectlite.Value).Elem", "(internal/reflectlite.Value).Set"], unfollowed := true, recurses := true, named := ["errors.errorType"], plainKeys := false, apart := false, laid := [("errors.errorType", laid_errors_errorType)] }
def CausalPlaysSaid : Prop := causalPlaysRow.holds Tryz.pinned (OpenSpec.ofChange causalPlaysSpec)

/-- ITS FALSE NEIGHBOUR: 'it returns false'. Refute it at one input. -/
def causalPlaysWrong : ChangeSpec := { name := "causalPlays", fn := fun _ => fun
  | [d] => { results := [.lit (.bool false)], args := [d] }
  | _ => none }
def CausalPlaysWrongFalsely : Prop := causalPlaysRow.holds Tryz.pinned (OpenSpec.ofChange causalPlaysWrong)

/-- 'leaflaw2.CausalMeets': WHATEVER THE INPUT: true; the input reads as it did. -/
def causalMeetsSpec : ChangeSpec := { name := "causalMeets", fn := fun _ => fun
  | [d1, d2] => { results := [.lit (.bool true)], args := [d1, d2] }
  | _ => none }
def causalMeetsRow : OpenClaim := { program := "ythfbjfocmnikaaagreatdoor", sum := "2523b92e7dbb63fb7c25ab5f1671a83cf4daa12238e89558ce3a08e99b983f76", func := "leafbinder/leaflaw2.CausalMeets", spec := "causalMeets", inPlace := ["internal/bytealg.abigen_runtime_cmpstring", "slices.overlaps[leafbinder/api.Mark]", "slices.overlaps[leafbinder/api.Leaf]", "internal/reflectlite.ValueOf", "(internal/reflectlite.Value).Type", "(internal/reflectlite.Value).IsNil", "internal/reflectlite.TypeOf", "(internal/reflectlite.Value).Elem", "(internal/reflectlite.Value).Set"], unfollowed := true, recurses := true, named := ["errors.errorType"], plainKeys := false, apart := false, laid := [("errors.errorType", laid_errors_errorType)] }
def CausalMeetsSaid : Prop := causalMeetsRow.holds Tryz.pinned (OpenSpec.ofChange causalMeetsSpec)

/-- ITS FALSE NEIGHBOUR: 'it returns false'. Refute it at one input. -/
def causalMeetsWrong : ChangeSpec := { name := "causalMeets", fn := fun _ => fun
  | [d1, d2] => { results := [.lit (.bool false)], args := [d1, d2] }
  | _ => none }
def CausalMeetsWrongFalsely : Prop := causalMeetsRow.holds Tryz.pinned (OpenSpec.ofChange causalMeetsWrong)

/-- 'leaflaw3.NetPlays': WHATEVER THE INPUT: true; the input reads as it did. -/
def netPlaysSpec : ChangeSpec := { name := "netPlays", fn := fun _ => fun
  | [d1, d2] => { results := [.lit (.bool true)], args := [d1, d2] }
  | _ => none }
def netPlaysRow : OpenClaim := { program := "ythfbjfocmnikaaagreatdoor", sum := "2523b92e7dbb63fb7c25ab5f1671a83cf4daa12238e89558ce3a08e99b983f76", func := "leafbinder/leaflaw3.NetPlays", spec := "netPlays", inPlace := ["internal/reflectlite.ValueOf", "(internal/reflectlite.Value).Type", "(internal/reflectlite.Value).IsNil", "internal/reflectlite.TypeOf", "(internal/reflectlite.Value).Elem", "(internal/reflectlite.Value).Set", "internal/bytealg.abigen_runtime_cmpstring", "slices.overlaps[leafbinder/api.Mark]", "slices.overlaps[leafbinder/api.Leaf]"], unfollowed := true, recurses := true, named := ["errors.errorType"], plainKeys := false, apart := false, laid := [("errors.errorType", laid_errors_errorType)] }
def NetPlaysSaid : Prop := netPlaysRow.holds Tryz.pinned (OpenSpec.ofChange netPlaysSpec)

/-- ITS FALSE NEIGHBOUR: 'it returns false'. Refute it at one input. -/
def netPlaysWrong : ChangeSpec := { name := "netPlays", fn := fun _ => fun
  | [d1, d2] => { results := [.lit (.bool false)], args := [d1, d2] }
  | _ => none }
def NetPlaysWrongFalsely : Prop := netPlaysRow.holds Tryz.pinned (OpenSpec.ofChange netPlaysWrong)

/-- 'leaftop.TopTogether': WHATEVER THE INPUT: true; the input reads as it did. -/
def topTogetherSpec : ChangeSpec := { name := "topTogether", fn := fun _ => fun
  | [d1, d2, d3] => { results := [.lit (.bool true)], args := [d1, d2, d3] }
  | _ => none }
def topTogetherRow : OpenClaim := { program := "ythfbjfocmnikaaagreatdoor", sum := "2523b92e7dbb63fb7c25ab5f1671a83cf4daa12238e89558ce3a08e99b983f76", func := "leafbinder/leaftop.TopTogether", spec := "topTogether", inPlace := ["internal/bytealg.abigen_runtime_cmpstring", "slices.overlaps[leafbinder/api.Mark]", "slices.overlaps[leafbinder/api.Leaf]", "internal/reflectlite.ValueOf", "(internal/reflectlite.Value).Type", "(internal/reflectlite.Value).IsNil", "internal/reflectlite.TypeOf", "(internal/reflectlite.Value).Elem", "(internal/reflectlite.Value).Set"], unfollowed := true, recurses := true, named := ["errors.errorType"], plainKeys := false, apart := false, laid := [("errors.errorType", laid_errors_errorType)] }
def TopTogetherSaid : Prop := topTogetherRow.holds Tryz.pinned (OpenSpec.ofChange topTogetherSpec)

/-- ITS FALSE NEIGHBOUR: 'it returns false'. Refute it at one input. -/
def topTogetherWrong : ChangeSpec := { name := "topTogether", fn := fun _ => fun
  | [d1, d2, d3] => { results := [.lit (.bool false)], args := [d1, d2, d3] }
  | _ => none }
def TopTogetherWrongFalsely : Prop := topTogetherRow.holds Tryz.pinned (OpenSpec.ofChange topTogetherWrong)

/- THE SECOND FORM. 'bulk': how many values and letters a reading holds, each counted each time it is reached (what is shared counts as often as it is met; a slice's spare places count too). A statement '..UptoSaid' is the law's where the arguments, and the package variables that the reading takes, are together of bulk at most 1048576: NARROWER than '..Said'. Prove '..Said' where nothing that the law and all that it calls make is longer than what came in: it says more and counts as full. Else prove '..UptoSaid'. A law counts once. -/
mutual
def uptoBulk {H : Type} : DataW H → Nat
  | .lit (.string bytes) => bytes.length + 1
  | .lit _ => 1
  | .nil => 1
  | .ptr d => uptoBulk d + 1
  | .slice elems spare => uptoBulkAll elems + uptoBulkAll spare + 1
  | .agg parts => uptoBulkAll parts + 1
  | .iface _ d => uptoBulk d + 1
  | .map entries => uptoBulkEntries entries + 1
  | .held _ => 1
def uptoBulkAll {H : Type} : List (DataW H) → Nat
  | [] => 0
  | d :: r => uptoBulk d + uptoBulkAll r
def uptoBulkEntries {H : Type} : List (Lit × DataW H) → Nat
  | [] => 0
  | x :: r => uptoBulkEntry x + uptoBulkEntries r
def uptoBulkEntry {H : Type} : Lit × DataW H → Nat
  | (.string bytes, d) => bytes.length + uptoBulk d + 1
  | (_, d) => uptoBulk d + 1
 end
def uptoSmall : (H : Type) → List (DataW H) → Bool := fun _ ds => decide (uptoBulkAll ds ≤ 1048576)
def OpenSpec.upto (s : _root_.Go.ChangeSpec) : _root_.Go.OpenSpec := { _root_.Go.OpenSpec.ofChange s with cond := some uptoSmall }

/-- 'leaflaw3.LogKeeps', WHERE WHAT IT READS IS OF BULK AT MOST 1048576: true; the input reads as it did. -/
def logKeepsUptoRow : OpenClaim := { program := "ythfbjfocmnikaaagreatdoor", sum := "2523b92e7dbb63fb7c25ab5f1671a83cf4daa12238e89558ce3a08e99b983f76", func := "leafbinder/leaflaw3.LogKeeps", spec := "logKeeps", inPlace := ["internal/bytealg.abigen_runtime_cmpstring", "slices.overlaps[leafbinder/api.Mark]", "slices.overlaps[leafbinder/api.Leaf]", "internal/reflectlite.ValueOf", "(internal/reflectlite.Value).Type", "(internal/reflectlite.Value).IsNil", "internal/reflectlite.TypeOf", "(internal/reflectlite.Value).Elem", "(internal/reflectlite.Value).Set"], unfollowed := true, recurses := true, named := ["errors.errorType"], plainKeys := false, apart := false, laid := [("errors.errorType", laid_errors_errorType)], narrowed := true }
def LogKeepsUptoSaid : Prop := logKeepsUptoRow.holds Tryz.pinned (OpenSpec.upto logKeepsSpec)

/-- 'leaflaw3.FindTells', WHERE WHAT IT READS IS OF BULK AT MOST 1048576: true; the input reads as it did. -/
def findTellsUptoRow : OpenClaim := { program := "ythfbjfocmnikaaagreatdoor", sum := "2523b92e7dbb63fb7c25ab5f1671a83cf4daa12238e89558ce3a08e99b983f76", func := "leafbinder/leaflaw3.FindTells", spec := "findTells", inPlace := ["internal/bytealg.IndexByteString", "internal/bytealg.IndexString", "internal/reflectlite.ValueOf", "(internal/reflectlite.Value).Type", "(internal/reflectlite.Value).IsNil", "internal/reflectlite.TypeOf", "(internal/reflectlite.Value).Elem", "(internal/reflectlite.Value).Set", "internal/bytealg.abigen_runtime_cmpstring", "slices.overlaps[leafbinder/api.Mark]", "slices.overlaps[leafbinder/api.Leaf]"], unfollowed := true, recurses := true, named := ["internal/bytealg.MaxLen", "errors.errorType"], plainKeys := false, apart := false, laid := [("errors.errorType", laid_errors_errorType)], narrowed := true }
def FindTellsUptoSaid : Prop := findTellsUptoRow.holds Tryz.pinned (OpenSpec.upto findTellsSpec)

/-- 'leaflaw2.CausalPlays', WHERE WHAT IT READS IS OF BULK AT MOST 1048576: true; the input reads as it did. -/
def causalPlaysUptoRow : OpenClaim := { program := "ythfbjfocmnikaaagreatdoor", sum := "2523b92e7dbb63fb7c25ab5f1671a83cf4daa12238e89558ce3a08e99b983f76", func := "leafbinder/leaflaw2.CausalPlays", spec := "causalPlays", inPlace := ["internal/bytealg.abigen_runtime_cmpstring", "slices.overlaps[leafbinder/api.Mark]", "slices.overlaps[leafbinder/api.Leaf]", "internal/reflectlite.ValueOf", "(internal/reflectlite.Value).Type", "(internal/reflectlite.Value).IsNil", "internal/reflectlite.TypeOf", "(internal/reflectlite.Value).Elem", "(internal/reflectlite.Value).Set"], unfollowed := true, recurses := true, named := ["errors.errorType"], plainKeys := false, apart := false, laid := [("errors.errorType", laid_errors_errorType)], narrowed := true }
def CausalPlaysUptoSaid : Prop := causalPlaysUptoRow.holds Tryz.pinned (OpenSpec.upto causalPlaysSpec)

/-- 'leaflaw2.CausalMeets', WHERE WHAT IT READS IS OF BULK AT MOST 1048576: true; the input reads as it did. -/
def causalMeetsUptoRow : OpenClaim := { program := "ythfbjfocmnikaaagreatdoor", sum := "2523b92e7dbb63fb7c25ab5f1671a83cf4daa12238e89558ce3a08e99b983f76", func := "leafbinder/leaflaw2.CausalMeets", spec := "causalMeets", inPlace := ["internal/bytealg.abigen_runtime_cmpstring", "slices.overlaps[leafbinder/api.Mark]", "slices.overlaps[leafbinder/api.Leaf]", "internal/reflectlite.ValueOf", "(internal/reflectlite.Value).Type", "(internal/reflectlite.Value).IsNil", "internal/reflectlite.TypeOf", "(internal/reflectlite.Value).Elem", "(internal/reflectlite.Value).Set"], unfollowed := true, recurses := true, named := ["errors.errorType"], plainKeys := false, apart := false, laid := [("errors.errorType", laid_errors_errorType)], narrowed := true }
def CausalMeetsUptoSaid : Prop := causalMeetsUptoRow.holds Tryz.pinned (OpenSpec.upto causalMeetsSpec)

/-- 'leaflaw3.NetPlays', WHERE WHAT IT READS IS OF BULK AT MOST 1048576: true; the input reads as it did. -/
def netPlaysUptoRow : OpenClaim := { program := "ythfbjfocmnikaaagreatdoor", sum := "2523b92e7dbb63fb7c25ab5f1671a83cf4daa12238e89558ce3a08e99b983f76", func := "leafbinder/leaflaw3.NetPlays", spec := "netPlays", inPlace := ["internal/reflectlite.ValueOf", "(internal/reflectlite.Value).Type", "(internal/reflectlite.Value).IsNil", "internal/reflectlite.TypeOf", "(internal/reflectlite.Value).Elem", "(internal/reflectlite.Value).Set", "internal/bytealg.abigen_runtime_cmpstring", "slices.overlaps[leafbinder/api.Mark]", "slices.overlaps[leafbinder/api.Leaf]"], unfollowed := true, recurses := true, named := ["errors.errorType"], plainKeys := false, apart := false, laid := [("errors.errorType", laid_errors_errorType)], narrowed := true }
def NetPlaysUptoSaid : Prop := netPlaysUptoRow.holds Tryz.pinned (OpenSpec.upto netPlaysSpec)

/-- 'leaftop.TopTogether', WHERE WHAT IT READS IS OF BULK AT MOST 1048576: true; the input reads as it did. -/
def topTogetherUptoRow : OpenClaim := { program := "ythfbjfocmnikaaagreatdoor", sum := "2523b92e7dbb63fb7c25ab5f1671a83cf4daa12238e89558ce3a08e99b983f76", func := "leafbinder/leaftop.TopTogether", spec := "topTogether", inPlace := ["internal/bytealg.abigen_runtime_cmpstring", "slices.overlaps[leafbinder/api.Mark]", "slices.overlaps[leafbinder/api.Leaf]", "internal/reflectlite.ValueOf", "(internal/reflectlite.Value).Type", "(internal/reflectlite.Value).IsNil", "internal/reflectlite.TypeOf", "(internal/reflectlite.Value).Elem", "(internal/reflectlite.Value).Set"], unfollowed := true, recurses := true, named := ["errors.errorType"], plainKeys := false, apart := false, laid := [("errors.errorType", laid_errors_errorType)], narrowed := true }
def TopTogetherUptoSaid : Prop := topTogetherUptoRow.holds Tryz.pinned (OpenSpec.upto topTogetherSpec)

end Rows
end Go.Proofs.YthfbjfocmnikaaaGreatDoor

/-
  No cell of these rows narrows 'for every input' (looked for: loops, veiled, ifaces, maps, wideKeys, modest, calm, conditions, laid).
  DERIVED. THE GIVEN ROWS OF THIS SEAT. 7 by the template 'for every input the law returns true; each argument reads behind the call as it read before'; 0 by the template 'total and deterministic' (their statements: YtobdollnkndmeaaTotals.lean).
  GIVEN WITH THE SEED: the statements are not yours to turn. If you find one false, say at which input.
  Laid BY PROGRAM, IN A SANDBOX (cutbox-rows.mjs): the forced cells as the released guide's own fill.sh prints them over the translation 455b144ba98fc69d… (all of the seat's roots in one cut). By AI agents, Wed Nov 11 2026. No macro, syntax, notation, axiom, sorry.
-/
import Derived.Test.YtobdollnkndmeaaChecked
import GoSem.Claim
import GoSem.ClaimJoined
import GoSem.ClaimMapViews
import Derived.JoinedTies
import Derived.KernelRfl
namespace Go.Proofs.Ytobdollnkndmeaa
/- THE CELL 'sum', in the pinned program and in every row, IS THE sha256 OF THE DUMP (.gsa) THAT YtobdollnkndmeaaProg.lean LOADS. Nothing in Lean hashes anything: it is a label: what it is worth is what the hold of that sum in a sandbox is worth. -/
noncomputable def Try.pinned : Pinned := { name := "ytobdollnkndmeaa", sum := "455b144ba98fc69d7b1c68805e8dbfce93448047e574793cc7820ff7bf4e24c1", checked := Try.checked }
namespace Rows
def none {H : Type} : Left H := { results := [], args := [] }

/-- 'leaflaw3.StatSums': WHATEVER THE INPUT: true; the input reads as it did. -/
def statSumsSpec : ChangeSpec := { name := "statSums", fn := fun _ => fun
  | [d] => { results := [.lit (.bool true)], args := [d] }
  | _ => none }
def statSumsRow : OpenClaim := { program := "ytobdollnkndmeaa", sum := "455b144ba98fc69d7b1c68805e8dbfce93448047e574793cc7820ff7bf4e24c1", func := "leafbinder/leaflaw3.StatSums", spec := "statSums", inPlace := ["internal/bytealg.abigen_runtime_cmpstring", "slices.overlaps[leafbinder/api.Mark]", "slices.overlaps[leafbinder/api.Leaf]"], unfollowed := true, recurses := true, plainKeys := false, apart := false }
def StatSumsSaid : Prop := statSumsRow.holds Try.pinned (OpenSpec.ofChange statSumsSpec)

/-- ITS FALSE NEIGHBOUR: 'it returns false'. Refute it at one input. -/
def statSumsWrong : ChangeSpec := { name := "statSums", fn := fun _ => fun
  | [d] => { results := [.lit (.bool false)], args := [d] }
  | _ => none }
def StatSumsWrongFalsely : Prop := statSumsRow.holds Try.pinned (OpenSpec.ofChange statSumsWrong)

/-- 'leaflaw2.EditApart': WHATEVER THE INPUT: true; the input reads as it did. -/
def editApartSpec : ChangeSpec := { name := "editApart", fn := fun _ => fun
  | [d1, d2, d3, d4, d5, d6, d7] => { results := [.lit (.bool true)], args := [d1, d2, d3, d4, d5, d6, d7] }
  | _ => none }
def editApartRow : OpenClaim := { program := "ytobdollnkndmeaa", sum := "455b144ba98fc69d7b1c68805e8dbfce93448047e574793cc7820ff7bf4e24c1", func := "leafbinder/leaflaw2.EditApart", spec := "editApart", inPlace := ["internal/bytealg.abigen_runtime_cmpstring", "slices.overlaps[leafbinder/api.Mark]", "slices.overlaps[leafbinder/api.Leaf]"], unfollowed := true, recurses := true, plainKeys := false, apart := false }
def EditApartSaid : Prop := editApartRow.holds Try.pinned (OpenSpec.ofChange editApartSpec)

/-- ITS FALSE NEIGHBOUR: 'it returns false'. Refute it at one input. -/
def editApartWrong : ChangeSpec := { name := "editApart", fn := fun _ => fun
  | [d1, d2, d3, d4, d5, d6, d7] => { results := [.lit (.bool false)], args := [d1, d2, d3, d4, d5, d6, d7] }
  | _ => none }
def EditApartWrongFalsely : Prop := editApartRow.holds Try.pinned (OpenSpec.ofChange editApartWrong)

/-- 'leaflaw2.CursorStays': WHATEVER THE INPUT: true; the input reads as it did. -/
def cursorStaysSpec : ChangeSpec := { name := "cursorStays", fn := fun _ => fun
  | [d1, d2, d3, d4, d5] => { results := [.lit (.bool true)], args := [d1, d2, d3, d4, d5] }
  | _ => none }
def cursorStaysRow : OpenClaim := { program := "ytobdollnkndmeaa", sum := "455b144ba98fc69d7b1c68805e8dbfce93448047e574793cc7820ff7bf4e24c1", func := "leafbinder/leaflaw2.CursorStays", spec := "cursorStays", inPlace := ["internal/bytealg.abigen_runtime_cmpstring", "slices.overlaps[leafbinder/api.Mark]", "slices.overlaps[leafbinder/api.Leaf]"], unfollowed := true, recurses := true, plainKeys := false, apart := false }
def CursorStaysSaid : Prop := cursorStaysRow.holds Try.pinned (OpenSpec.ofChange cursorStaysSpec)

/-- ITS FALSE NEIGHBOUR: 'it returns false'. Refute it at one input. -/
def cursorStaysWrong : ChangeSpec := { name := "cursorStays", fn := fun _ => fun
  | [d1, d2, d3, d4, d5] => { results := [.lit (.bool false)], args := [d1, d2, d3, d4, d5] }
  | _ => none }
def CursorStaysWrongFalsely : Prop := cursorStaysRow.holds Try.pinned (OpenSpec.ofChange cursorStaysWrong)

/-- 'leaflaw4.StatOne': WHATEVER THE INPUT: true; the input reads as it did. -/
def statOneSpec : ChangeSpec := { name := "statOne", fn := fun _ => fun
  | [d1, d2] => { results := [.lit (.bool true)], args := [d1, d2] }
  | _ => none }
def statOneRow : OpenClaim := { program := "ytobdollnkndmeaa", sum := "455b144ba98fc69d7b1c68805e8dbfce93448047e574793cc7820ff7bf4e24c1", func := "leafbinder/leaflaw4.StatOne", spec := "statOne", inPlace := ["internal/bytealg.abigen_runtime_cmpstring", "slices.overlaps[leafbinder/api.Mark]", "slices.overlaps[leafbinder/api.Leaf]"], unfollowed := true, recurses := true, plainKeys := false, apart := false }
def StatOneSaid : Prop := statOneRow.holds Try.pinned (OpenSpec.ofChange statOneSpec)

/-- ITS FALSE NEIGHBOUR: 'it returns false'. Refute it at one input. -/
def statOneWrong : ChangeSpec := { name := "statOne", fn := fun _ => fun
  | [d1, d2] => { results := [.lit (.bool false)], args := [d1, d2] }
  | _ => none }
def StatOneWrongFalsely : Prop := statOneRow.holds Try.pinned (OpenSpec.ofChange statOneWrong)

/-- 'leaflaw2.SyncMeets': WHATEVER THE INPUT: true; the input reads as it did. -/
def syncMeetsSpec : ChangeSpec := { name := "syncMeets", fn := fun _ => fun
  | [d1, d2] => { results := [.lit (.bool true)], args := [d1, d2] }
  | _ => none }
def syncMeetsRow : OpenClaim := { program := "ytobdollnkndmeaa", sum := "455b144ba98fc69d7b1c68805e8dbfce93448047e574793cc7820ff7bf4e24c1", func := "leafbinder/leaflaw2.SyncMeets", spec := "syncMeets", inPlace := ["internal/bytealg.abigen_runtime_cmpstring", "slices.overlaps[leafbinder/api.Mark]", "slices.overlaps[leafbinder/api.Leaf]"], unfollowed := true, recurses := true, plainKeys := false, apart := false }
def SyncMeetsSaid : Prop := syncMeetsRow.holds Try.pinned (OpenSpec.ofChange syncMeetsSpec)

/-- ITS FALSE NEIGHBOUR: 'it returns false'. Refute it at one input. -/
def syncMeetsWrong : ChangeSpec := { name := "syncMeets", fn := fun _ => fun
  | [d1, d2] => { results := [.lit (.bool false)], args := [d1, d2] }
  | _ => none }
def SyncMeetsWrongFalsely : Prop := syncMeetsRow.holds Try.pinned (OpenSpec.ofChange syncMeetsWrong)

/-- 'leaflaw4.DirCuts': WHATEVER THE INPUT: true; the input reads as it did. -/
def dirCutsSpec : ChangeSpec := { name := "dirCuts", fn := fun _ => fun
  | [d1, d2] => { results := [.lit (.bool true)], args := [d1, d2] }
  | _ => none }
def dirCutsRow : OpenClaim := { program := "ytobdollnkndmeaa", sum := "455b144ba98fc69d7b1c68805e8dbfce93448047e574793cc7820ff7bf4e24c1", func := "leafbinder/leaflaw4.DirCuts", spec := "dirCuts", inPlace := ["internal/bytealg.abigen_runtime_cmpstring", "slices.overlaps[leafbinder/api.Mark]", "slices.overlaps[leafbinder/api.Leaf]"], unfollowed := true, recurses := true, plainKeys := false, apart := false }
def DirCutsSaid : Prop := dirCutsRow.holds Try.pinned (OpenSpec.ofChange dirCutsSpec)

/-- ITS FALSE NEIGHBOUR: 'it returns false'. Refute it at one input. -/
def dirCutsWrong : ChangeSpec := { name := "dirCuts", fn := fun _ => fun
  | [d1, d2] => { results := [.lit (.bool false)], args := [d1, d2] }
  | _ => none }
def DirCutsWrongFalsely : Prop := dirCutsRow.holds Try.pinned (OpenSpec.ofChange dirCutsWrong)

/-- 'leaflaw2.EditDoes': WHATEVER THE INPUT: true; the input reads as it did. -/
def editDoesSpec : ChangeSpec := { name := "editDoes", fn := fun _ => fun
  | [d1, d2, d3, d4, d5] => { results := [.lit (.bool true)], args := [d1, d2, d3, d4, d5] }
  | _ => none }
def editDoesRow : OpenClaim := { program := "ytobdollnkndmeaa", sum := "455b144ba98fc69d7b1c68805e8dbfce93448047e574793cc7820ff7bf4e24c1", func := "leafbinder/leaflaw2.EditDoes", spec := "editDoes", inPlace := ["internal/bytealg.abigen_runtime_cmpstring", "slices.overlaps[leafbinder/api.Mark]", "slices.overlaps[leafbinder/api.Leaf]"], unfollowed := true, recurses := true, plainKeys := false, apart := false }
def EditDoesSaid : Prop := editDoesRow.holds Try.pinned (OpenSpec.ofChange editDoesSpec)

/-- ITS FALSE NEIGHBOUR: 'it returns false'. Refute it at one input. -/
def editDoesWrong : ChangeSpec := { name := "editDoes", fn := fun _ => fun
  | [d1, d2, d3, d4, d5] => { results := [.lit (.bool false)], args := [d1, d2, d3, d4, d5] }
  | _ => none }
def EditDoesWrongFalsely : Prop := editDoesRow.holds Try.pinned (OpenSpec.ofChange editDoesWrong)

/- THE SECOND FORM. 'bulk': how many values and letters a reading holds, each counted each time it is reached (what is shared counts as often as it is met; a slice's spare places count too). A statement '..UptoSaid' is the law's where the arguments, and the package variables that the reading takes, are together of bulk at most 1048576: NARROWER than '..Said'. Prove '..Said' where nothing that the law and all that it calls make is longer than what came in: it says more and counts as full. Else prove '..UptoSaid'. A law counts once. -/
mutual
def uptoBulk {H : Type} : DataW H → Nat
  | .lit (.string bytes) => bytes.length + 1
  | .lit _ => 1
  | .nil => 1
  | .ptr d => uptoBulk d + 1
  | .slice elems spare => uptoBulkAll elems + uptoBulkAll spare + 1
  | .agg parts => uptoBulkAll parts + 1
  | .iface _ d => uptoBulk d + 1
  | .map entries => uptoBulkEntries entries + 1
  | .held _ => 1
def uptoBulkAll {H : Type} : List (DataW H) → Nat
  | [] => 0
  | d :: r => uptoBulk d + uptoBulkAll r
def uptoBulkEntries {H : Type} : List (Lit × DataW H) → Nat
  | [] => 0
  | x :: r => uptoBulkEntry x + uptoBulkEntries r
def uptoBulkEntry {H : Type} : Lit × DataW H → Nat
  | (.string bytes, d) => bytes.length + uptoBulk d + 1
  | (_, d) => uptoBulk d + 1
 end
def uptoSmall : (H : Type) → List (DataW H) → Bool := fun _ ds => decide (uptoBulkAll ds ≤ 1048576)
def OpenSpec.upto (s : _root_.Go.ChangeSpec) : _root_.Go.OpenSpec := { _root_.Go.OpenSpec.ofChange s with cond := some uptoSmall }

/-- 'leaflaw3.StatSums', WHERE WHAT IT READS IS OF BULK AT MOST 1048576: true; the input reads as it did. -/
def statSumsUptoRow : OpenClaim := { program := "ytobdollnkndmeaa", sum := "455b144ba98fc69d7b1c68805e8dbfce93448047e574793cc7820ff7bf4e24c1", func := "leafbinder/leaflaw3.StatSums", spec := "statSums", inPlace := ["internal/bytealg.abigen_runtime_cmpstring", "slices.overlaps[leafbinder/api.Mark]", "slices.overlaps[leafbinder/api.Leaf]"], unfollowed := true, recurses := true, plainKeys := false, apart := false, narrowed := true }
def StatSumsUptoSaid : Prop := statSumsUptoRow.holds Try.pinned (OpenSpec.upto statSumsSpec)

/-- 'leaflaw2.EditApart', WHERE WHAT IT READS IS OF BULK AT MOST 1048576: true; the input reads as it did. -/
def editApartUptoRow : OpenClaim := { program := "ytobdollnkndmeaa", sum := "455b144ba98fc69d7b1c68805e8dbfce93448047e574793cc7820ff7bf4e24c1", func := "leafbinder/leaflaw2.EditApart", spec := "editApart", inPlace := ["internal/bytealg.abigen_runtime_cmpstring", "slices.overlaps[leafbinder/api.Mark]", "slices.overlaps[leafbinder/api.Leaf]"], unfollowed := true, recurses := true, plainKeys := false, apart := false, narrowed := true }
def EditApartUptoSaid : Prop := editApartUptoRow.holds Try.pinned (OpenSpec.upto editApartSpec)

/-- 'leaflaw2.CursorStays', WHERE WHAT IT READS IS OF BULK AT MOST 1048576: true; the input reads as it did. -/
def cursorStaysUptoRow : OpenClaim := { program := "ytobdollnkndmeaa", sum := "455b144ba98fc69d7b1c68805e8dbfce93448047e574793cc7820ff7bf4e24c1", func := "leafbinder/leaflaw2.CursorStays", spec := "cursorStays", inPlace := ["internal/bytealg.abigen_runtime_cmpstring", "slices.overlaps[leafbinder/api.Mark]", "slices.overlaps[leafbinder/api.Leaf]"], unfollowed := true, recurses := true, plainKeys := false, apart := false, narrowed := true }
def CursorStaysUptoSaid : Prop := cursorStaysUptoRow.holds Try.pinned (OpenSpec.upto cursorStaysSpec)

/-- 'leaflaw4.StatOne', WHERE WHAT IT READS IS OF BULK AT MOST 1048576: true; the input reads as it did. -/
def statOneUptoRow : OpenClaim := { program := "ytobdollnkndmeaa", sum := "455b144ba98fc69d7b1c68805e8dbfce93448047e574793cc7820ff7bf4e24c1", func := "leafbinder/leaflaw4.StatOne", spec := "statOne", inPlace := ["internal/bytealg.abigen_runtime_cmpstring", "slices.overlaps[leafbinder/api.Mark]", "slices.overlaps[leafbinder/api.Leaf]"], unfollowed := true, recurses := true, plainKeys := false, apart := false, narrowed := true }
def StatOneUptoSaid : Prop := statOneUptoRow.holds Try.pinned (OpenSpec.upto statOneSpec)

/-- 'leaflaw2.SyncMeets', WHERE WHAT IT READS IS OF BULK AT MOST 1048576: true; the input reads as it did. -/
def syncMeetsUptoRow : OpenClaim := { program := "ytobdollnkndmeaa", sum := "455b144ba98fc69d7b1c68805e8dbfce93448047e574793cc7820ff7bf4e24c1", func := "leafbinder/leaflaw2.SyncMeets", spec := "syncMeets", inPlace := ["internal/bytealg.abigen_runtime_cmpstring", "slices.overlaps[leafbinder/api.Mark]", "slices.overlaps[leafbinder/api.Leaf]"], unfollowed := true, recurses := true, plainKeys := false, apart := false, narrowed := true }
def SyncMeetsUptoSaid : Prop := syncMeetsUptoRow.holds Try.pinned (OpenSpec.upto syncMeetsSpec)

/-- 'leaflaw4.DirCuts', WHERE WHAT IT READS IS OF BULK AT MOST 1048576: true; the input reads as it did. -/
def dirCutsUptoRow : OpenClaim := { program := "ytobdollnkndmeaa", sum := "455b144ba98fc69d7b1c68805e8dbfce93448047e574793cc7820ff7bf4e24c1", func := "leafbinder/leaflaw4.DirCuts", spec := "dirCuts", inPlace := ["internal/bytealg.abigen_runtime_cmpstring", "slices.overlaps[leafbinder/api.Mark]", "slices.overlaps[leafbinder/api.Leaf]"], unfollowed := true, recurses := true, plainKeys := false, apart := false, narrowed := true }
def DirCutsUptoSaid : Prop := dirCutsUptoRow.holds Try.pinned (OpenSpec.upto dirCutsSpec)

/-- 'leaflaw2.EditDoes', WHERE WHAT IT READS IS OF BULK AT MOST 1048576: true; the input reads as it did. -/
def editDoesUptoRow : OpenClaim := { program := "ytobdollnkndmeaa", sum := "455b144ba98fc69d7b1c68805e8dbfce93448047e574793cc7820ff7bf4e24c1", func := "leafbinder/leaflaw2.EditDoes", spec := "editDoes", inPlace := ["internal/bytealg.abigen_runtime_cmpstring", "slices.overlaps[leafbinder/api.Mark]", "slices.overlaps[leafbinder/api.Leaf]"], unfollowed := true, recurses := true, plainKeys := false, apart := false, narrowed := true }
def EditDoesUptoSaid : Prop := editDoesUptoRow.holds Try.pinned (OpenSpec.upto editDoesSpec)

end Rows
end Go.Proofs.Ytobdollnkndmeaa

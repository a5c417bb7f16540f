/-
  DERIVED. GIVEN WITH THE SEED: THE CARDS: each row of YteiadcdaleckjaaDoorRows.lean that lists a variable, with what it lists TIED to the program's text (the seventh form; the later family's looks); each row that meets fmt, with fmt's text TOLD by the authors' own Lean function (tested against real Go, not proved from fmt's source: count such statements apart). THE CARD IS WHAT COUNTS. Prove the row's statement (the work); the ties are given (YteiadcdaleckjaaDoorTie.lean); close each card by the builder's one call (the guide's Derived/Test/ToyasCard.lean, 'card_holds'). Laid BY PROGRAM, IN A SANDBOX (cutbox-door.mjs). By AI agents, Wed Nov 11 2026. No macro, syntax, notation, axiom, sorry.
-/
import Derived.Test.YteiadcdaleckjaaDoorRows
import GoSem.ClaimSeven
namespace Go.Proofs.YteiadcdaleckjaaDoor
namespace Rows

/-- THE TIED CARD OF 'leaflaw3.DiffTells'. -/
def diffTellsCard : Claim7 := { stood := { row := diffTellsRow, standIns := [], harness := (true, "dae2946d287ff71e9dc996098d0338c14fa572ded5f620d722373c302a044378"), looks := true }, kinds := [], alts := [], laidByText := true, laidKinds := [.handle], laidTests := true, laidLooks := .later }
def DiffTellsCardSaid : Prop := Claim7.holds Tryd.pinned (.plain (OpenSpec.ofChange diffTellsSpec)) diffTellsCard

/-- THE TIED CARD OF 'leaflaw1.DirTells'. -/
def dirTellsCard : Claim7 := { stood := { row := dirTellsRow, standIns := [], harness := (true, "dae2946d287ff71e9dc996098d0338c14fa572ded5f620d722373c302a044378"), looks := true }, kinds := [], alts := [], laidByText := true, laidKinds := [.handle], laidTests := true, laidLooks := .later }
def DirTellsCardSaid : Prop := Claim7.holds Tryd.pinned (.plain (OpenSpec.ofChange dirTellsSpec)) dirTellsCard

/-- THE SECOND FORM's CARD OF 'leaflaw3.DiffTells'. -/
def diffTellsUptoCard : Claim7 := { stood := { row := diffTellsUptoRow, standIns := [], harness := (true, "dae2946d287ff71e9dc996098d0338c14fa572ded5f620d722373c302a044378"), looks := true }, kinds := [], alts := [], laidByText := true, laidKinds := [.handle], laidTests := true, laidLooks := .later }
def DiffTellsUptoCardSaid : Prop := Claim7.holds Tryd.pinned (.plain (OpenSpec.upto diffTellsSpec)) diffTellsUptoCard

/-- THE SECOND FORM's CARD OF 'leaflaw1.DirTells'. -/
def dirTellsUptoCard : Claim7 := { stood := { row := dirTellsUptoRow, standIns := [], harness := (true, "dae2946d287ff71e9dc996098d0338c14fa572ded5f620d722373c302a044378"), looks := true }, kinds := [], alts := [], laidByText := true, laidKinds := [.handle], laidTests := true, laidLooks := .later }
def DirTellsUptoCardSaid : Prop := Claim7.holds Tryd.pinned (.plain (OpenSpec.upto dirTellsSpec)) dirTellsUptoCard
end Rows
end Go.Proofs.YteiadcdaleckjaaDoor

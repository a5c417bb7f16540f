/-
  DERIVED. GIVEN WITH THE SEED: THE CARDS: each row of YtgmdnmdniidngaaDoorRows.lean that lists a variable, with what it lists TIED to the program's text (the seventh form; the later family's looks); each row that meets fmt, with fmt's text TOLD by the authors' own Lean function (tested against real Go, not proved from fmt's source: count such statements apart). THE CARD IS WHAT COUNTS. Prove the row's statement (the work); the ties are given (YtgmdnmdniidngaaDoorTie.lean); close each card by the builder's one call (the guide's Derived/Test/ToyasCard.lean, 'card_holds'). Laid BY PROGRAM, IN A SANDBOX (cutbox-door.mjs). By AI agents, Wed Nov 11 2026. No macro, syntax, notation, axiom, sorry.
-/
import Derived.Test.YtgmdnmdniidngaaDoorRows
import GoSem.ClaimSeven
namespace Go.Proofs.YtgmdnmdniidngaaDoor
namespace Rows

/-- THE TIED CARD OF 'leaflaw3.StatTells'. -/
def statTellsCard : Claim7 := { stood := { row := statTellsRow, standIns := [], harness := (true, "7f2d2897d27284645e71cb7b9125b448d9a228734564913f9c463f61722e62a0"), looks := true }, kinds := [], alts := [], laidByText := true, laidKinds := [.handle], laidTests := true, laidLooks := .later }
def StatTellsCardSaid : Prop := Claim7.holds Tryd.pinned (.plain (OpenSpec.ofChange statTellsSpec)) statTellsCard

/-- THE TIED CARD OF 'leaflaw1.PlaceTells'. -/
def placeTellsCard : Claim7 := { stood := { row := placeTellsRow, standIns := [], harness := (true, "7f2d2897d27284645e71cb7b9125b448d9a228734564913f9c463f61722e62a0"), looks := true }, kinds := [], alts := [], laidByText := true, laidKinds := [.handle], laidTests := true, laidLooks := .later }
def PlaceTellsCardSaid : Prop := Claim7.holds Tryd.pinned (.plain (OpenSpec.ofChange placeTellsSpec)) placeTellsCard

/-- THE TIED CARD OF 'leaflaw3.DiffTells'. -/
def diffTellsCard : Claim7 := { stood := { row := diffTellsRow, standIns := [], harness := (true, "7f2d2897d27284645e71cb7b9125b448d9a228734564913f9c463f61722e62a0"), looks := true }, kinds := [], alts := [], laidByText := true, laidKinds := [.handle], laidTests := true, laidLooks := .later }
def DiffTellsCardSaid : Prop := Claim7.holds Tryd.pinned (.plain (OpenSpec.ofChange diffTellsSpec)) diffTellsCard

/-- THE TIED CARD OF 'leaflaw1.DirTells'. -/
def dirTellsCard : Claim7 := { stood := { row := dirTellsRow, standIns := [], harness := (true, "7f2d2897d27284645e71cb7b9125b448d9a228734564913f9c463f61722e62a0"), looks := true }, kinds := [], alts := [], laidByText := true, laidKinds := [.handle], laidTests := true, laidLooks := .later }
def DirTellsCardSaid : Prop := Claim7.holds Tryd.pinned (.plain (OpenSpec.ofChange dirTellsSpec)) dirTellsCard

/-- THE SECOND FORM's CARD OF 'leaflaw3.StatTells'. -/
def statTellsUptoCard : Claim7 := { stood := { row := statTellsUptoRow, standIns := [], harness := (true, "7f2d2897d27284645e71cb7b9125b448d9a228734564913f9c463f61722e62a0"), looks := true }, kinds := [], alts := [], laidByText := true, laidKinds := [.handle], laidTests := true, laidLooks := .later }
def StatTellsUptoCardSaid : Prop := Claim7.holds Tryd.pinned (.plain (OpenSpec.upto statTellsSpec)) statTellsUptoCard

/-- THE SECOND FORM's CARD OF 'leaflaw1.PlaceTells'. -/
def placeTellsUptoCard : Claim7 := { stood := { row := placeTellsUptoRow, standIns := [], harness := (true, "7f2d2897d27284645e71cb7b9125b448d9a228734564913f9c463f61722e62a0"), looks := true }, kinds := [], alts := [], laidByText := true, laidKinds := [.handle], laidTests := true, laidLooks := .later }
def PlaceTellsUptoCardSaid : Prop := Claim7.holds Tryd.pinned (.plain (OpenSpec.upto placeTellsSpec)) placeTellsUptoCard

/-- THE SECOND FORM's CARD OF 'leaflaw3.DiffTells'. -/
def diffTellsUptoCard : Claim7 := { stood := { row := diffTellsUptoRow, standIns := [], harness := (true, "7f2d2897d27284645e71cb7b9125b448d9a228734564913f9c463f61722e62a0"), looks := true }, kinds := [], alts := [], laidByText := true, laidKinds := [.handle], laidTests := true, laidLooks := .later }
def DiffTellsUptoCardSaid : Prop := Claim7.holds Tryd.pinned (.plain (OpenSpec.upto diffTellsSpec)) diffTellsUptoCard

/-- THE SECOND FORM's CARD OF 'leaflaw1.DirTells'. -/
def dirTellsUptoCard : Claim7 := { stood := { row := dirTellsUptoRow, standIns := [], harness := (true, "7f2d2897d27284645e71cb7b9125b448d9a228734564913f9c463f61722e62a0"), looks := true }, kinds := [], alts := [], laidByText := true, laidKinds := [.handle], laidTests := true, laidLooks := .later }
def DirTellsUptoCardSaid : Prop := Claim7.holds Tryd.pinned (.plain (OpenSpec.upto dirTellsSpec)) dirTellsUptoCard
end Rows
end Go.Proofs.YtgmdnmdniidngaaDoor

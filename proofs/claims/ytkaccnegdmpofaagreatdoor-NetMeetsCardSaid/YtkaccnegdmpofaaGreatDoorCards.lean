/-
  DERIVED. GIVEN WITH THE SEED: THE CARDS: each row of YtkaccnegdmpofaaGreatDoorRows.lean that lists a variable, with what it lists TIED to the program's text (the seventh form; the later family's looks); each row that meets fmt, with fmt's text TOLD by the authors' own Lean function (tested against real Go, not proved from fmt's source: count such statements apart). THE CARD IS WHAT COUNTS. Prove the row's statement (the work); the ties are given (YtkaccnegdmpofaaGreatDoorTie.lean); close each card by the builder's one call (the guide's Derived/Test/ToyasCard.lean, 'card_holds'). Laid BY PROGRAM, IN A SANDBOX (cutbox-door.mjs). By AI agents, Wed Nov 11 2026. No macro, syntax, notation, axiom, sorry.
-/
import Derived.Test.YtkaccnegdmpofaaGreatDoorRows
import GoSem.ClaimSeven
namespace Go.Proofs.YtkaccnegdmpofaaGreatDoor
namespace Rows

/-- THE TIED CARD OF 'leaflaw3.FindTells'. -/
def findTellsCard : Claim7 := { stood := { row := findTellsRow, standIns := [], harness := (true, "fccc582d8f503e3387d0f49dfff6348b0692e9384b460df05566c5d2b9a97364"), looks := true }, kinds := [], alts := [], laidByText := true, laidKinds := [.handle], laidTests := true, laidLooks := .later }
def FindTellsCardSaid : Prop := Claim7.holds Tryz.pinned (.plain (OpenSpec.ofChange findTellsSpec)) findTellsCard

/-- THE TIED CARD OF 'leaflaw3.NetMeets'. -/
def netMeetsCard : Claim7 := { stood := { row := netMeetsRow, standIns := [], harness := (true, "fccc582d8f503e3387d0f49dfff6348b0692e9384b460df05566c5d2b9a97364"), looks := true }, kinds := [], alts := [], laidByText := true, laidKinds := [.handle], laidTests := true, laidLooks := .later }
def NetMeetsCardSaid : Prop := Claim7.holds Tryz.pinned (.plain (OpenSpec.ofChange netMeetsSpec)) netMeetsCard

/-- THE TIED CARD OF 'leaflaw4.NetTypes'. -/
def netTypesCard : Claim7 := { stood := { row := netTypesRow, standIns := [], harness := (true, "fccc582d8f503e3387d0f49dfff6348b0692e9384b460df05566c5d2b9a97364"), looks := true }, kinds := [], alts := [], laidByText := true, laidKinds := [.handle], laidTests := true, laidLooks := .later }
def NetTypesCardSaid : Prop := Claim7.holds Tryz.pinned (.plain (OpenSpec.ofChange netTypesSpec)) netTypesCard

/-- THE TIED CARD OF 'leaflaw3.NetPlays'. -/
def netPlaysCard : Claim7 := { stood := { row := netPlaysRow, standIns := [], harness := (true, "fccc582d8f503e3387d0f49dfff6348b0692e9384b460df05566c5d2b9a97364"), looks := true }, kinds := [], alts := [], laidByText := true, laidKinds := [.handle], laidTests := true, laidLooks := .later }
def NetPlaysCardSaid : Prop := Claim7.holds Tryz.pinned (.plain (OpenSpec.ofChange netPlaysSpec)) netPlaysCard

/-- THE TIED CARD OF 'leaftop.TopTogether'. -/
def topTogetherCard : Claim7 := { stood := { row := topTogetherRow, standIns := [], harness := (true, "fccc582d8f503e3387d0f49dfff6348b0692e9384b460df05566c5d2b9a97364"), looks := true }, kinds := [], alts := [], laidByText := true, laidKinds := [.handle], laidTests := true, laidLooks := .later }
def TopTogetherCardSaid : Prop := Claim7.holds Tryz.pinned (.plain (OpenSpec.ofChange topTogetherSpec)) topTogetherCard

/-- THE SECOND FORM's CARD OF 'leaflaw3.FindTells'. -/
def findTellsUptoCard : Claim7 := { stood := { row := findTellsUptoRow, standIns := [], harness := (true, "fccc582d8f503e3387d0f49dfff6348b0692e9384b460df05566c5d2b9a97364"), looks := true }, kinds := [], alts := [], laidByText := true, laidKinds := [.handle], laidTests := true, laidLooks := .later }
def FindTellsUptoCardSaid : Prop := Claim7.holds Tryz.pinned (.plain (OpenSpec.upto findTellsSpec)) findTellsUptoCard

/-- THE SECOND FORM's CARD OF 'leaflaw3.NetMeets'. -/
def netMeetsUptoCard : Claim7 := { stood := { row := netMeetsUptoRow, standIns := [], harness := (true, "fccc582d8f503e3387d0f49dfff6348b0692e9384b460df05566c5d2b9a97364"), looks := true }, kinds := [], alts := [], laidByText := true, laidKinds := [.handle], laidTests := true, laidLooks := .later }
def NetMeetsUptoCardSaid : Prop := Claim7.holds Tryz.pinned (.plain (OpenSpec.upto netMeetsSpec)) netMeetsUptoCard

/-- THE SECOND FORM's CARD OF 'leaflaw4.NetTypes'. -/
def netTypesUptoCard : Claim7 := { stood := { row := netTypesUptoRow, standIns := [], harness := (true, "fccc582d8f503e3387d0f49dfff6348b0692e9384b460df05566c5d2b9a97364"), looks := true }, kinds := [], alts := [], laidByText := true, laidKinds := [.handle], laidTests := true, laidLooks := .later }
def NetTypesUptoCardSaid : Prop := Claim7.holds Tryz.pinned (.plain (OpenSpec.upto netTypesSpec)) netTypesUptoCard

/-- THE SECOND FORM's CARD OF 'leaflaw3.NetPlays'. -/
def netPlaysUptoCard : Claim7 := { stood := { row := netPlaysUptoRow, standIns := [], harness := (true, "fccc582d8f503e3387d0f49dfff6348b0692e9384b460df05566c5d2b9a97364"), looks := true }, kinds := [], alts := [], laidByText := true, laidKinds := [.handle], laidTests := true, laidLooks := .later }
def NetPlaysUptoCardSaid : Prop := Claim7.holds Tryz.pinned (.plain (OpenSpec.upto netPlaysSpec)) netPlaysUptoCard

/-- THE SECOND FORM's CARD OF 'leaftop.TopTogether'. -/
def topTogetherUptoCard : Claim7 := { stood := { row := topTogetherUptoRow, standIns := [], harness := (true, "fccc582d8f503e3387d0f49dfff6348b0692e9384b460df05566c5d2b9a97364"), looks := true }, kinds := [], alts := [], laidByText := true, laidKinds := [.handle], laidTests := true, laidLooks := .later }
def TopTogetherUptoCardSaid : Prop := Claim7.holds Tryz.pinned (.plain (OpenSpec.upto topTogetherSpec)) topTogetherUptoCard
end Rows
end Go.Proofs.YtkaccnegdmpofaaGreatDoor

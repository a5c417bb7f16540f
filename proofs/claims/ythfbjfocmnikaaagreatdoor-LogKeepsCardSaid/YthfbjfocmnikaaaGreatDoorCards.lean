/-
  DERIVED. GIVEN WITH THE SEED: THE CARDS: each row of YthfbjfocmnikaaaGreatDoorRows.lean that lists a variable, with what it lists TIED to the program's text (the seventh form; the later family's looks); each row that meets fmt, with fmt's text TOLD by the authors' own Lean function (tested against real Go, not proved from fmt's source: count such statements apart). THE CARD IS WHAT COUNTS. Prove the row's statement (the work); the ties are given (YthfbjfocmnikaaaGreatDoorTie.lean); close each card by the builder's one call (the guide's Derived/Test/ToyasCard.lean, 'card_holds'). Laid BY PROGRAM, IN A SANDBOX (cutbox-door.mjs). By AI agents, Wed Nov 11 2026. No macro, syntax, notation, axiom, sorry.
-/
import Derived.Test.YthfbjfocmnikaaaGreatDoorRows
import GoSem.ClaimSeven
namespace Go.Proofs.YthfbjfocmnikaaaGreatDoor
namespace Rows

/-- THE TIED CARD OF 'leaflaw3.LogKeeps'. -/
def logKeepsCard : Claim7 := { stood := { row := logKeepsRow, standIns := [], harness := (true, "f937bea921e4a56dd5e527698b3c275509da429efb91208a274a9b7dec3ea66b"), looks := true }, kinds := [], alts := [], laidByText := true, laidKinds := [.handle], laidTests := true, laidLooks := .later }
def LogKeepsCardSaid : Prop := Claim7.holds Tryz.pinned (.plain (OpenSpec.ofChange logKeepsSpec)) logKeepsCard

/-- THE TIED CARD OF 'leaflaw3.FindTells'. -/
def findTellsCard : Claim7 := { stood := { row := findTellsRow, standIns := [], harness := (true, "f937bea921e4a56dd5e527698b3c275509da429efb91208a274a9b7dec3ea66b"), looks := true }, kinds := [], alts := [], laidByText := true, laidKinds := [.handle], laidTests := true, laidLooks := .later }
def FindTellsCardSaid : Prop := Claim7.holds Tryz.pinned (.plain (OpenSpec.ofChange findTellsSpec)) findTellsCard

/-- THE TIED CARD OF 'leaflaw2.CausalPlays'. -/
def causalPlaysCard : Claim7 := { stood := { row := causalPlaysRow, standIns := [], harness := (true, "f937bea921e4a56dd5e527698b3c275509da429efb91208a274a9b7dec3ea66b"), looks := true }, kinds := [], alts := [], laidByText := true, laidKinds := [.handle], laidTests := true, laidLooks := .later }
def CausalPlaysCardSaid : Prop := Claim7.holds Tryz.pinned (.plain (OpenSpec.ofChange causalPlaysSpec)) causalPlaysCard

/-- THE TIED CARD OF 'leaflaw2.CausalMeets'. -/
def causalMeetsCard : Claim7 := { stood := { row := causalMeetsRow, standIns := [], harness := (true, "f937bea921e4a56dd5e527698b3c275509da429efb91208a274a9b7dec3ea66b"), looks := true }, kinds := [], alts := [], laidByText := true, laidKinds := [.handle], laidTests := true, laidLooks := .later }
def CausalMeetsCardSaid : Prop := Claim7.holds Tryz.pinned (.plain (OpenSpec.ofChange causalMeetsSpec)) causalMeetsCard

/-- THE TIED CARD OF 'leaflaw3.NetPlays'. -/
def netPlaysCard : Claim7 := { stood := { row := netPlaysRow, standIns := [], harness := (true, "f937bea921e4a56dd5e527698b3c275509da429efb91208a274a9b7dec3ea66b"), looks := true }, kinds := [], alts := [], laidByText := true, laidKinds := [.handle], laidTests := true, laidLooks := .later }
def NetPlaysCardSaid : Prop := Claim7.holds Tryz.pinned (.plain (OpenSpec.ofChange netPlaysSpec)) netPlaysCard

/-- THE TIED CARD OF 'leaftop.TopTogether'. -/
def topTogetherCard : Claim7 := { stood := { row := topTogetherRow, standIns := [], harness := (true, "f937bea921e4a56dd5e527698b3c275509da429efb91208a274a9b7dec3ea66b"), looks := true }, kinds := [], alts := [], laidByText := true, laidKinds := [.handle], laidTests := true, laidLooks := .later }
def TopTogetherCardSaid : Prop := Claim7.holds Tryz.pinned (.plain (OpenSpec.ofChange topTogetherSpec)) topTogetherCard

/-- THE SECOND FORM's CARD OF 'leaflaw3.LogKeeps'. -/
def logKeepsUptoCard : Claim7 := { stood := { row := logKeepsUptoRow, standIns := [], harness := (true, "f937bea921e4a56dd5e527698b3c275509da429efb91208a274a9b7dec3ea66b"), looks := true }, kinds := [], alts := [], laidByText := true, laidKinds := [.handle], laidTests := true, laidLooks := .later }
def LogKeepsUptoCardSaid : Prop := Claim7.holds Tryz.pinned (.plain (OpenSpec.upto logKeepsSpec)) logKeepsUptoCard

/-- THE SECOND FORM's CARD OF 'leaflaw3.FindTells'. -/
def findTellsUptoCard : Claim7 := { stood := { row := findTellsUptoRow, standIns := [], harness := (true, "f937bea921e4a56dd5e527698b3c275509da429efb91208a274a9b7dec3ea66b"), looks := true }, kinds := [], alts := [], laidByText := true, laidKinds := [.handle], laidTests := true, laidLooks := .later }
def FindTellsUptoCardSaid : Prop := Claim7.holds Tryz.pinned (.plain (OpenSpec.upto findTellsSpec)) findTellsUptoCard

/-- THE SECOND FORM's CARD OF 'leaflaw2.CausalPlays'. -/
def causalPlaysUptoCard : Claim7 := { stood := { row := causalPlaysUptoRow, standIns := [], harness := (true, "f937bea921e4a56dd5e527698b3c275509da429efb91208a274a9b7dec3ea66b"), looks := true }, kinds := [], alts := [], laidByText := true, laidKinds := [.handle], laidTests := true, laidLooks := .later }
def CausalPlaysUptoCardSaid : Prop := Claim7.holds Tryz.pinned (.plain (OpenSpec.upto causalPlaysSpec)) causalPlaysUptoCard

/-- THE SECOND FORM's CARD OF 'leaflaw2.CausalMeets'. -/
def causalMeetsUptoCard : Claim7 := { stood := { row := causalMeetsUptoRow, standIns := [], harness := (true, "f937bea921e4a56dd5e527698b3c275509da429efb91208a274a9b7dec3ea66b"), looks := true }, kinds := [], alts := [], laidByText := true, laidKinds := [.handle], laidTests := true, laidLooks := .later }
def CausalMeetsUptoCardSaid : Prop := Claim7.holds Tryz.pinned (.plain (OpenSpec.upto causalMeetsSpec)) causalMeetsUptoCard

/-- THE SECOND FORM's CARD OF 'leaflaw3.NetPlays'. -/
def netPlaysUptoCard : Claim7 := { stood := { row := netPlaysUptoRow, standIns := [], harness := (true, "f937bea921e4a56dd5e527698b3c275509da429efb91208a274a9b7dec3ea66b"), looks := true }, kinds := [], alts := [], laidByText := true, laidKinds := [.handle], laidTests := true, laidLooks := .later }
def NetPlaysUptoCardSaid : Prop := Claim7.holds Tryz.pinned (.plain (OpenSpec.upto netPlaysSpec)) netPlaysUptoCard

/-- THE SECOND FORM's CARD OF 'leaftop.TopTogether'. -/
def topTogetherUptoCard : Claim7 := { stood := { row := topTogetherUptoRow, standIns := [], harness := (true, "f937bea921e4a56dd5e527698b3c275509da429efb91208a274a9b7dec3ea66b"), looks := true }, kinds := [], alts := [], laidByText := true, laidKinds := [.handle], laidTests := true, laidLooks := .later }
def TopTogetherUptoCardSaid : Prop := Claim7.holds Tryz.pinned (.plain (OpenSpec.upto topTogetherSpec)) topTogetherUptoCard
end Rows
end Go.Proofs.YthfbjfocmnikaaaGreatDoor

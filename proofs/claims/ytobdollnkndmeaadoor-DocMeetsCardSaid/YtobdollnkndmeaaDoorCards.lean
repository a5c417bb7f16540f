/-
  DERIVED. GIVEN WITH THE SEED: THE CARDS: each row of YtobdollnkndmeaaDoorRows.lean that lists a variable, with what it lists TIED to the program's text (the seventh form; the later family's looks); each row that meets fmt, with fmt's text TOLD by the authors' own Lean function (tested against real Go, not proved from fmt's source: count such statements apart). THE CARD IS WHAT COUNTS. Prove the row's statement (the work); the ties are given (YtobdollnkndmeaaDoorTie.lean); close each card by the builder's one call (the guide's Derived/Test/ToyasCard.lean, 'card_holds'). Laid BY PROGRAM, IN A SANDBOX (cutbox-door.mjs). By AI agents, Wed Nov 11 2026. No macro, syntax, notation, axiom, sorry.
-/
import Derived.Test.YtobdollnkndmeaaDoorRows
import GoSem.ClaimSeven
namespace Go.Proofs.YtobdollnkndmeaaDoor
namespace Rows

/-- THE TIED CARD OF 'leaflaw1.DocMeets'. -/
def docMeetsCard : Claim7 := { stood := { row := docMeetsRow, standIns := [], harness := (true, "b467d9b354cd9686290e30895494e9af264d166e61ce69891e0090467db3fa7f"), looks := true }, kinds := [], alts := [], laidByText := true, laidKinds := [.handle], laidTests := true, laidLooks := .later }
def DocMeetsCardSaid : Prop := Claim7.holds Tryd.pinned (.plain (OpenSpec.ofChange docMeetsSpec)) docMeetsCard

/-- THE SECOND FORM's CARD OF 'leaflaw1.DocMeets'. -/
def docMeetsUptoCard : Claim7 := { stood := { row := docMeetsUptoRow, standIns := [], harness := (true, "b467d9b354cd9686290e30895494e9af264d166e61ce69891e0090467db3fa7f"), looks := true }, kinds := [], alts := [], laidByText := true, laidKinds := [.handle], laidTests := true, laidLooks := .later }
def DocMeetsUptoCardSaid : Prop := Claim7.holds Tryd.pinned (.plain (OpenSpec.upto docMeetsSpec)) docMeetsUptoCard
end Rows
end Go.Proofs.YtobdollnkndmeaaDoor

/-
  DERIVED. GIVEN WITH THE SEED: THE CARDS: each row of YtobdollnkndmeaaGreatDoorRows.lean that lists a variable, with what it lists TIED to the program's text (the seventh form; the later family's looks); each row that meets fmt, with fmt's text TOLD by the authors' own Lean function (tested against real Go, not proved from fmt's source: count such statements apart). THE CARD IS WHAT COUNTS. Prove the row's statement (the work); the ties are given (YtobdollnkndmeaaGreatDoorTie.lean); close each card by the builder's one call (the guide's Derived/Test/ToyasCard.lean, 'card_holds'). Laid BY PROGRAM, IN A SANDBOX (cutbox-door.mjs). By AI agents, Wed Nov 11 2026. No macro, syntax, notation, axiom, sorry.
-/
import Derived.Test.YtobdollnkndmeaaGreatDoorRows
import GoSem.ClaimSeven
namespace Go.Proofs.YtobdollnkndmeaaGreatDoor
namespace Rows

/-- THE TIED CARD OF 'leaflaw1.DocPlays'. -/
def docPlaysCard : Claim7 := { stood := { row := docPlaysRow, standIns := [], harness := (true, "446e57493cadbfe6cb7eef5584ba49dd241aeee17d5491a45e69772411af0a5e"), looks := true }, kinds := [], alts := [], laidByText := true, laidKinds := [.handle], laidTests := true, laidLooks := .later }
def DocPlaysCardSaid : Prop := Claim7.holds Tryz.pinned (.plain (OpenSpec.ofChange docPlaysSpec)) docPlaysCard

/-- THE TIED CARD OF 'leaflaw4.EditTypes'. -/
def editTypesCard : Claim7 := { stood := { row := editTypesRow, standIns := [], harness := (true, "446e57493cadbfe6cb7eef5584ba49dd241aeee17d5491a45e69772411af0a5e"), looks := true }, kinds := [], alts := [], laidByText := true, laidKinds := [.handle], laidTests := true, laidLooks := .later }
def EditTypesCardSaid : Prop := Claim7.holds Tryz.pinned (.plain (OpenSpec.ofChange editTypesSpec)) editTypesCard

/-- THE TIED CARD OF 'leaflaw4.CursorEnds'. -/
def cursorEndsCard : Claim7 := { stood := { row := cursorEndsRow, standIns := [], harness := (true, "446e57493cadbfe6cb7eef5584ba49dd241aeee17d5491a45e69772411af0a5e"), looks := true }, kinds := [], alts := [], laidByText := true, laidKinds := [.handle], laidTests := true, laidLooks := .later }
def CursorEndsCardSaid : Prop := Claim7.holds Tryz.pinned (.plain (OpenSpec.ofChange cursorEndsSpec)) cursorEndsCard

/-- THE TIED CARD OF 'leaflaw2.EditTells'. -/
def editTellsCard : Claim7 := { stood := { row := editTellsRow, standIns := [], harness := (true, "446e57493cadbfe6cb7eef5584ba49dd241aeee17d5491a45e69772411af0a5e"), looks := true }, kinds := [], alts := [], laidByText := true, laidKinds := [.handle], laidTests := true, laidLooks := .later }
def EditTellsCardSaid : Prop := Claim7.holds Tryz.pinned (.plain (OpenSpec.ofChange editTellsSpec)) editTellsCard

/-- THE SECOND FORM's CARD OF 'leaflaw1.DocPlays'. -/
def docPlaysUptoCard : Claim7 := { stood := { row := docPlaysUptoRow, standIns := [], harness := (true, "446e57493cadbfe6cb7eef5584ba49dd241aeee17d5491a45e69772411af0a5e"), looks := true }, kinds := [], alts := [], laidByText := true, laidKinds := [.handle], laidTests := true, laidLooks := .later }
def DocPlaysUptoCardSaid : Prop := Claim7.holds Tryz.pinned (.plain (OpenSpec.upto docPlaysSpec)) docPlaysUptoCard

/-- THE SECOND FORM's CARD OF 'leaflaw4.EditTypes'. -/
def editTypesUptoCard : Claim7 := { stood := { row := editTypesUptoRow, standIns := [], harness := (true, "446e57493cadbfe6cb7eef5584ba49dd241aeee17d5491a45e69772411af0a5e"), looks := true }, kinds := [], alts := [], laidByText := true, laidKinds := [.handle], laidTests := true, laidLooks := .later }
def EditTypesUptoCardSaid : Prop := Claim7.holds Tryz.pinned (.plain (OpenSpec.upto editTypesSpec)) editTypesUptoCard

/-- THE SECOND FORM's CARD OF 'leaflaw4.CursorEnds'. -/
def cursorEndsUptoCard : Claim7 := { stood := { row := cursorEndsUptoRow, standIns := [], harness := (true, "446e57493cadbfe6cb7eef5584ba49dd241aeee17d5491a45e69772411af0a5e"), looks := true }, kinds := [], alts := [], laidByText := true, laidKinds := [.handle], laidTests := true, laidLooks := .later }
def CursorEndsUptoCardSaid : Prop := Claim7.holds Tryz.pinned (.plain (OpenSpec.upto cursorEndsSpec)) cursorEndsUptoCard

/-- THE SECOND FORM's CARD OF 'leaflaw2.EditTells'. -/
def editTellsUptoCard : Claim7 := { stood := { row := editTellsUptoRow, standIns := [], harness := (true, "446e57493cadbfe6cb7eef5584ba49dd241aeee17d5491a45e69772411af0a5e"), looks := true }, kinds := [], alts := [], laidByText := true, laidKinds := [.handle], laidTests := true, laidLooks := .later }
def EditTellsUptoCardSaid : Prop := Claim7.holds Tryz.pinned (.plain (OpenSpec.upto editTellsSpec)) editTellsUptoCard
end Rows
end Go.Proofs.YtobdollnkndmeaaGreatDoor

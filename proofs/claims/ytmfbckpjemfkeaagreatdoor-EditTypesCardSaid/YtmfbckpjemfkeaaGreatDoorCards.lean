/-
  DERIVED. GIVEN WITH THE SEED: THE CARDS: each row of YtmfbckpjemfkeaaGreatDoorRows.lean that lists a variable, with what it lists TIED to the program's text (the seventh form; the later family's looks); each row that meets fmt, with fmt's text TOLD by the authors' own Lean function (tested against real Go, not proved from fmt's source: count such statements apart). THE CARD IS WHAT COUNTS. Prove the row's statement (the work); the ties are given (YtmfbckpjemfkeaaGreatDoorTie.lean); close each card by the builder's one call (the guide's Derived/Test/ToyasCard.lean, 'card_holds'). Laid BY PROGRAM, IN A SANDBOX (cutbox-door.mjs). By AI agents, Wed Nov 11 2026. No macro, syntax, notation, axiom, sorry.
-/
import Derived.Test.YtmfbckpjemfkeaaGreatDoorRows
import GoSem.ClaimSeven
namespace Go.Proofs.YtmfbckpjemfkeaaGreatDoor
namespace Rows

/-- THE TIED CARD OF 'leaflaw1.DocPlays'. -/
def docPlaysCard : Claim7 := { stood := { row := docPlaysRow, standIns := [], harness := (true, "9854789f351688e0f1c79063406c2897806a71e3510fec258886ae38a61c0ed6"), looks := true }, kinds := [], alts := [], laidByText := true, laidKinds := [.handle], laidTests := true, laidLooks := .later }
def DocPlaysCardSaid : Prop := Claim7.holds Tryz.pinned (.plain (OpenSpec.ofChange docPlaysSpec)) docPlaysCard

/-- THE TIED CARD OF 'leaflaw3.LogStops'. -/
def logStopsCard : Claim7 := { stood := { row := logStopsRow, standIns := [], harness := (true, "9854789f351688e0f1c79063406c2897806a71e3510fec258886ae38a61c0ed6"), looks := true }, kinds := [], alts := [], laidByText := true, laidKinds := [.handle], laidTests := true, laidLooks := .later }
def LogStopsCardSaid : Prop := Claim7.holds Tryz.pinned (.plain (OpenSpec.ofChange logStopsSpec)) logStopsCard

/-- THE TIED CARD OF 'leaflaw3.LogKeeps'. -/
def logKeepsCard : Claim7 := { stood := { row := logKeepsRow, standIns := [], harness := (true, "9854789f351688e0f1c79063406c2897806a71e3510fec258886ae38a61c0ed6"), looks := true }, kinds := [], alts := [], laidByText := true, laidKinds := [.handle], laidTests := true, laidLooks := .later }
def LogKeepsCardSaid : Prop := Claim7.holds Tryz.pinned (.plain (OpenSpec.ofChange logKeepsSpec)) logKeepsCard

/-- THE TIED CARD OF 'leaflaw4.EditTypes'. -/
def editTypesCard : Claim7 := { stood := { row := editTypesRow, standIns := [], harness := (true, "9854789f351688e0f1c79063406c2897806a71e3510fec258886ae38a61c0ed6"), looks := true }, kinds := [], alts := [], laidByText := true, laidKinds := [.handle], laidTests := true, laidLooks := .later }
def EditTypesCardSaid : Prop := Claim7.holds Tryz.pinned (.plain (OpenSpec.ofChange editTypesSpec)) editTypesCard

/-- THE TIED CARD OF 'leaflaw3.BackTells'. -/
def backTellsCard : Claim7 := { stood := { row := backTellsRow, standIns := [], harness := (true, "9854789f351688e0f1c79063406c2897806a71e3510fec258886ae38a61c0ed6"), looks := true }, kinds := [], alts := [], laidByText := true, laidKinds := [.handle], laidTests := true, laidLooks := .later }
def BackTellsCardSaid : Prop := Claim7.holds Tryz.pinned (.plain (OpenSpec.ofChange backTellsSpec)) backTellsCard

/-- THE TIED CARD OF 'leaflaw2.SyncTells'. -/
def syncTellsCard : Claim7 := { stood := { row := syncTellsRow, standIns := [], harness := (true, "9854789f351688e0f1c79063406c2897806a71e3510fec258886ae38a61c0ed6"), looks := true }, kinds := [], alts := [], laidByText := true, laidKinds := [.handle], laidTests := true, laidLooks := .later }
def SyncTellsCardSaid : Prop := Claim7.holds Tryz.pinned (.plain (OpenSpec.ofChange syncTellsSpec)) syncTellsCard

/-- THE TIED CARD OF 'leaflaw2.EditTells'. -/
def editTellsCard : Claim7 := { stood := { row := editTellsRow, standIns := [], harness := (true, "9854789f351688e0f1c79063406c2897806a71e3510fec258886ae38a61c0ed6"), looks := true }, kinds := [], alts := [], laidByText := true, laidKinds := [.handle], laidTests := true, laidLooks := .later }
def EditTellsCardSaid : Prop := Claim7.holds Tryz.pinned (.plain (OpenSpec.ofChange editTellsSpec)) editTellsCard

/-- THE TIED CARD OF 'leaflaw4.BackAll'. -/
def backAllCard : Claim7 := { stood := { row := backAllRow, standIns := [], harness := (true, "9854789f351688e0f1c79063406c2897806a71e3510fec258886ae38a61c0ed6"), looks := true }, kinds := [], alts := [], laidByText := true, laidKinds := [.handle], laidTests := true, laidLooks := .later }
def BackAllCardSaid : Prop := Claim7.holds Tryz.pinned (.plain (OpenSpec.ofChange backAllSpec)) backAllCard

/-- THE SECOND FORM's CARD OF 'leaflaw1.DocPlays'. -/
def docPlaysUptoCard : Claim7 := { stood := { row := docPlaysUptoRow, standIns := [], harness := (true, "9854789f351688e0f1c79063406c2897806a71e3510fec258886ae38a61c0ed6"), looks := true }, kinds := [], alts := [], laidByText := true, laidKinds := [.handle], laidTests := true, laidLooks := .later }
def DocPlaysUptoCardSaid : Prop := Claim7.holds Tryz.pinned (.plain (OpenSpec.upto docPlaysSpec)) docPlaysUptoCard

/-- THE SECOND FORM's CARD OF 'leaflaw3.LogStops'. -/
def logStopsUptoCard : Claim7 := { stood := { row := logStopsUptoRow, standIns := [], harness := (true, "9854789f351688e0f1c79063406c2897806a71e3510fec258886ae38a61c0ed6"), looks := true }, kinds := [], alts := [], laidByText := true, laidKinds := [.handle], laidTests := true, laidLooks := .later }
def LogStopsUptoCardSaid : Prop := Claim7.holds Tryz.pinned (.plain (OpenSpec.upto logStopsSpec)) logStopsUptoCard

/-- THE SECOND FORM's CARD OF 'leaflaw3.LogKeeps'. -/
def logKeepsUptoCard : Claim7 := { stood := { row := logKeepsUptoRow, standIns := [], harness := (true, "9854789f351688e0f1c79063406c2897806a71e3510fec258886ae38a61c0ed6"), looks := true }, kinds := [], alts := [], laidByText := true, laidKinds := [.handle], laidTests := true, laidLooks := .later }
def LogKeepsUptoCardSaid : Prop := Claim7.holds Tryz.pinned (.plain (OpenSpec.upto logKeepsSpec)) logKeepsUptoCard

/-- THE SECOND FORM's CARD OF 'leaflaw4.EditTypes'. -/
def editTypesUptoCard : Claim7 := { stood := { row := editTypesUptoRow, standIns := [], harness := (true, "9854789f351688e0f1c79063406c2897806a71e3510fec258886ae38a61c0ed6"), looks := true }, kinds := [], alts := [], laidByText := true, laidKinds := [.handle], laidTests := true, laidLooks := .later }
def EditTypesUptoCardSaid : Prop := Claim7.holds Tryz.pinned (.plain (OpenSpec.upto editTypesSpec)) editTypesUptoCard

/-- THE SECOND FORM's CARD OF 'leaflaw3.BackTells'. -/
def backTellsUptoCard : Claim7 := { stood := { row := backTellsUptoRow, standIns := [], harness := (true, "9854789f351688e0f1c79063406c2897806a71e3510fec258886ae38a61c0ed6"), looks := true }, kinds := [], alts := [], laidByText := true, laidKinds := [.handle], laidTests := true, laidLooks := .later }
def BackTellsUptoCardSaid : Prop := Claim7.holds Tryz.pinned (.plain (OpenSpec.upto backTellsSpec)) backTellsUptoCard

/-- THE SECOND FORM's CARD OF 'leaflaw2.SyncTells'. -/
def syncTellsUptoCard : Claim7 := { stood := { row := syncTellsUptoRow, standIns := [], harness := (true, "9854789f351688e0f1c79063406c2897806a71e3510fec258886ae38a61c0ed6"), looks := true }, kinds := [], alts := [], laidByText := true, laidKinds := [.handle], laidTests := true, laidLooks := .later }
def SyncTellsUptoCardSaid : Prop := Claim7.holds Tryz.pinned (.plain (OpenSpec.upto syncTellsSpec)) syncTellsUptoCard

/-- THE SECOND FORM's CARD OF 'leaflaw2.EditTells'. -/
def editTellsUptoCard : Claim7 := { stood := { row := editTellsUptoRow, standIns := [], harness := (true, "9854789f351688e0f1c79063406c2897806a71e3510fec258886ae38a61c0ed6"), looks := true }, kinds := [], alts := [], laidByText := true, laidKinds := [.handle], laidTests := true, laidLooks := .later }
def EditTellsUptoCardSaid : Prop := Claim7.holds Tryz.pinned (.plain (OpenSpec.upto editTellsSpec)) editTellsUptoCard

/-- THE SECOND FORM's CARD OF 'leaflaw4.BackAll'. -/
def backAllUptoCard : Claim7 := { stood := { row := backAllUptoRow, standIns := [], harness := (true, "9854789f351688e0f1c79063406c2897806a71e3510fec258886ae38a61c0ed6"), looks := true }, kinds := [], alts := [], laidByText := true, laidKinds := [.handle], laidTests := true, laidLooks := .later }
def BackAllUptoCardSaid : Prop := Claim7.holds Tryz.pinned (.plain (OpenSpec.upto backAllSpec)) backAllUptoCard
end Rows
end Go.Proofs.YtmfbckpjemfkeaaGreatDoor

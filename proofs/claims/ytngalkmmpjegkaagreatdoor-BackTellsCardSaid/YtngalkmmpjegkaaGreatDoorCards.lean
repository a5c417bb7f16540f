/-
  DERIVED. GIVEN WITH THE SEED: THE CARDS: each row of YtngalkmmpjegkaaGreatDoorRows.lean that lists a variable, with what it lists TIED to the program's text (the seventh form; the later family's looks); each row that meets fmt, with fmt's text TOLD by the authors' own Lean function (tested against real Go, not proved from fmt's source: count such statements apart). THE CARD IS WHAT COUNTS. Prove the row's statement (the work); the ties are given (YtngalkmmpjegkaaGreatDoorTie.lean); close each card by the builder's one call (the guide's Derived/Test/ToyasCard.lean, 'card_holds'). Laid BY PROGRAM, IN A SANDBOX (cutbox-door.mjs). By AI agents, Wed Nov 11 2026. No macro, syntax, notation, axiom, sorry.
-/
import Derived.Test.YtngalkmmpjegkaaGreatDoorRows
import GoSem.ClaimSeven
namespace Go.Proofs.YtngalkmmpjegkaaGreatDoor
namespace Rows

/-- THE TIED CARD OF 'leaflaw3.LogKeeps'. -/
def logKeepsCard : Claim7 := { stood := { row := logKeepsRow, standIns := [], harness := (true, "d1fd85ccede5baaa53d84dbe0e4c823c216653c04f50aa7eda0157253601e680"), looks := true }, kinds := [], alts := [], laidByText := true, laidKinds := [.handle], laidTests := true, laidLooks := .later }
def LogKeepsCardSaid : Prop := Claim7.holds Tryz.pinned (.plain (OpenSpec.ofChange logKeepsSpec)) logKeepsCard

/-- THE TIED CARD OF 'leaflaw3.BackTells'. -/
def backTellsCard : Claim7 := { stood := { row := backTellsRow, standIns := [], harness := (true, "d1fd85ccede5baaa53d84dbe0e4c823c216653c04f50aa7eda0157253601e680"), looks := true }, kinds := [], alts := [], laidByText := true, laidKinds := [.handle], laidTests := true, laidLooks := .later }
def BackTellsCardSaid : Prop := Claim7.holds Tryz.pinned (.plain (OpenSpec.ofChange backTellsSpec)) backTellsCard

/-- THE TIED CARD OF 'leaflaw2.SyncTells'. -/
def syncTellsCard : Claim7 := { stood := { row := syncTellsRow, standIns := [], harness := (true, "d1fd85ccede5baaa53d84dbe0e4c823c216653c04f50aa7eda0157253601e680"), looks := true }, kinds := [], alts := [], laidByText := true, laidKinds := [.handle], laidTests := true, laidLooks := .later }
def SyncTellsCardSaid : Prop := Claim7.holds Tryz.pinned (.plain (OpenSpec.ofChange syncTellsSpec)) syncTellsCard

/-- THE TIED CARD OF 'leaflaw4.BackAll'. -/
def backAllCard : Claim7 := { stood := { row := backAllRow, standIns := [], harness := (true, "d1fd85ccede5baaa53d84dbe0e4c823c216653c04f50aa7eda0157253601e680"), looks := true }, kinds := [], alts := [], laidByText := true, laidKinds := [.handle], laidTests := true, laidLooks := .later }
def BackAllCardSaid : Prop := Claim7.holds Tryz.pinned (.plain (OpenSpec.ofChange backAllSpec)) backAllCard

/-- THE SECOND FORM's CARD OF 'leaflaw3.LogKeeps'. -/
def logKeepsUptoCard : Claim7 := { stood := { row := logKeepsUptoRow, standIns := [], harness := (true, "d1fd85ccede5baaa53d84dbe0e4c823c216653c04f50aa7eda0157253601e680"), looks := true }, kinds := [], alts := [], laidByText := true, laidKinds := [.handle], laidTests := true, laidLooks := .later }
def LogKeepsUptoCardSaid : Prop := Claim7.holds Tryz.pinned (.plain (OpenSpec.upto logKeepsSpec)) logKeepsUptoCard

/-- THE SECOND FORM's CARD OF 'leaflaw3.BackTells'. -/
def backTellsUptoCard : Claim7 := { stood := { row := backTellsUptoRow, standIns := [], harness := (true, "d1fd85ccede5baaa53d84dbe0e4c823c216653c04f50aa7eda0157253601e680"), looks := true }, kinds := [], alts := [], laidByText := true, laidKinds := [.handle], laidTests := true, laidLooks := .later }
def BackTellsUptoCardSaid : Prop := Claim7.holds Tryz.pinned (.plain (OpenSpec.upto backTellsSpec)) backTellsUptoCard

/-- THE SECOND FORM's CARD OF 'leaflaw2.SyncTells'. -/
def syncTellsUptoCard : Claim7 := { stood := { row := syncTellsUptoRow, standIns := [], harness := (true, "d1fd85ccede5baaa53d84dbe0e4c823c216653c04f50aa7eda0157253601e680"), looks := true }, kinds := [], alts := [], laidByText := true, laidKinds := [.handle], laidTests := true, laidLooks := .later }
def SyncTellsUptoCardSaid : Prop := Claim7.holds Tryz.pinned (.plain (OpenSpec.upto syncTellsSpec)) syncTellsUptoCard

/-- THE SECOND FORM's CARD OF 'leaflaw4.BackAll'. -/
def backAllUptoCard : Claim7 := { stood := { row := backAllUptoRow, standIns := [], harness := (true, "d1fd85ccede5baaa53d84dbe0e4c823c216653c04f50aa7eda0157253601e680"), looks := true }, kinds := [], alts := [], laidByText := true, laidKinds := [.handle], laidTests := true, laidLooks := .later }
def BackAllUptoCardSaid : Prop := Claim7.holds Tryz.pinned (.plain (OpenSpec.upto backAllSpec)) backAllUptoCard
end Rows
end Go.Proofs.YtngalkmmpjegkaaGreatDoor

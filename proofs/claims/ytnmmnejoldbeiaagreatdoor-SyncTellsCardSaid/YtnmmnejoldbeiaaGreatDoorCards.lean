/-
  DERIVED. GIVEN WITH THE SEED: THE CARDS: each row of YtnmmnejoldbeiaaGreatDoorRows.lean that lists a variable, with what it lists TIED to the program's text (the seventh form; the later family's looks); each row that meets fmt, with fmt's text TOLD by the authors' own Lean function (tested against real Go, not proved from fmt's source: count such statements apart). THE CARD IS WHAT COUNTS. Prove the row's statement (the work); the ties are given (YtnmmnejoldbeiaaGreatDoorTie.lean); close each card by the builder's one call (the guide's Derived/Test/ToyasCard.lean, 'card_holds'). Laid BY PROGRAM, IN A SANDBOX (cutbox-door.mjs). By AI agents, Wed Nov 11 2026. No macro, syntax, notation, axiom, sorry.
-/
import Derived.Test.YtnmmnejoldbeiaaGreatDoorRows
import GoSem.ClaimSeven
namespace Go.Proofs.YtnmmnejoldbeiaaGreatDoor
namespace Rows

/-- THE TIED CARD OF 'leaflaw3.LogKeeps'. -/
def logKeepsCard : Claim7 := { stood := { row := logKeepsRow, standIns := [], harness := (true, "10b820d93edc75a03fcf82848e227e8cc1ea5435401d0848f4a06bfcc0119b91"), looks := true }, kinds := [], alts := [], laidByText := true, laidKinds := [.handle], laidTests := true, laidLooks := .later }
def LogKeepsCardSaid : Prop := Claim7.holds Tryz.pinned (.plain (OpenSpec.ofChange logKeepsSpec)) logKeepsCard

/-- THE TIED CARD OF 'leaflaw2.SyncTells'. -/
def syncTellsCard : Claim7 := { stood := { row := syncTellsRow, standIns := [], harness := (true, "10b820d93edc75a03fcf82848e227e8cc1ea5435401d0848f4a06bfcc0119b91"), looks := true }, kinds := [], alts := [], laidByText := true, laidKinds := [.handle], laidTests := true, laidLooks := .later }
def SyncTellsCardSaid : Prop := Claim7.holds Tryz.pinned (.plain (OpenSpec.ofChange syncTellsSpec)) syncTellsCard

/-- THE TIED CARD OF 'leaflaw1.DotTells'. -/
def dotTellsCard : Claim7 := { stood := { row := dotTellsRow, standIns := [], harness := (true, "10b820d93edc75a03fcf82848e227e8cc1ea5435401d0848f4a06bfcc0119b91"), looks := true }, kinds := [], alts := [], laidByText := true, laidKinds := [.data, .data, .data, .data, .handle, .sentinel, .sentinel, .pinned], laidTests := true, laidLooks := .later }
def DotTellsCardSaid : Prop := Claim7.holds Tryz.pinned (.plain (OpenSpec.ofChange dotTellsSpec)) dotTellsCard

/-- THE TIED CARD OF 'leaflaw2.CausalPlays'. -/
def causalPlaysCard : Claim7 := { stood := { row := causalPlaysRow, standIns := [], harness := (true, "10b820d93edc75a03fcf82848e227e8cc1ea5435401d0848f4a06bfcc0119b91"), looks := true }, kinds := [], alts := [], laidByText := true, laidKinds := [.handle], laidTests := true, laidLooks := .later }
def CausalPlaysCardSaid : Prop := Claim7.holds Tryz.pinned (.plain (OpenSpec.ofChange causalPlaysSpec)) causalPlaysCard

/-- THE TIED CARD OF 'leaflaw2.CausalMeets'. -/
def causalMeetsCard : Claim7 := { stood := { row := causalMeetsRow, standIns := [], harness := (true, "10b820d93edc75a03fcf82848e227e8cc1ea5435401d0848f4a06bfcc0119b91"), looks := true }, kinds := [], alts := [], laidByText := true, laidKinds := [.handle], laidTests := true, laidLooks := .later }
def CausalMeetsCardSaid : Prop := Claim7.holds Tryz.pinned (.plain (OpenSpec.ofChange causalMeetsSpec)) causalMeetsCard

/-- THE SECOND FORM's CARD OF 'leaflaw3.LogKeeps'. -/
def logKeepsUptoCard : Claim7 := { stood := { row := logKeepsUptoRow, standIns := [], harness := (true, "10b820d93edc75a03fcf82848e227e8cc1ea5435401d0848f4a06bfcc0119b91"), looks := true }, kinds := [], alts := [], laidByText := true, laidKinds := [.handle], laidTests := true, laidLooks := .later }
def LogKeepsUptoCardSaid : Prop := Claim7.holds Tryz.pinned (.plain (OpenSpec.upto logKeepsSpec)) logKeepsUptoCard

/-- THE SECOND FORM's CARD OF 'leaflaw2.SyncTells'. -/
def syncTellsUptoCard : Claim7 := { stood := { row := syncTellsUptoRow, standIns := [], harness := (true, "10b820d93edc75a03fcf82848e227e8cc1ea5435401d0848f4a06bfcc0119b91"), looks := true }, kinds := [], alts := [], laidByText := true, laidKinds := [.handle], laidTests := true, laidLooks := .later }
def SyncTellsUptoCardSaid : Prop := Claim7.holds Tryz.pinned (.plain (OpenSpec.upto syncTellsSpec)) syncTellsUptoCard

/-- THE SECOND FORM's CARD OF 'leaflaw1.DotTells'. -/
def dotTellsUptoCard : Claim7 := { stood := { row := dotTellsUptoRow, standIns := [], harness := (true, "10b820d93edc75a03fcf82848e227e8cc1ea5435401d0848f4a06bfcc0119b91"), looks := true }, kinds := [], alts := [], laidByText := true, laidKinds := [.data, .data, .data, .data, .handle, .sentinel, .sentinel, .pinned], laidTests := true, laidLooks := .later }
def DotTellsUptoCardSaid : Prop := Claim7.holds Tryz.pinned (.plain (OpenSpec.upto dotTellsSpec)) dotTellsUptoCard

/-- THE SECOND FORM's CARD OF 'leaflaw2.CausalPlays'. -/
def causalPlaysUptoCard : Claim7 := { stood := { row := causalPlaysUptoRow, standIns := [], harness := (true, "10b820d93edc75a03fcf82848e227e8cc1ea5435401d0848f4a06bfcc0119b91"), looks := true }, kinds := [], alts := [], laidByText := true, laidKinds := [.handle], laidTests := true, laidLooks := .later }
def CausalPlaysUptoCardSaid : Prop := Claim7.holds Tryz.pinned (.plain (OpenSpec.upto causalPlaysSpec)) causalPlaysUptoCard

/-- THE SECOND FORM's CARD OF 'leaflaw2.CausalMeets'. -/
def causalMeetsUptoCard : Claim7 := { stood := { row := causalMeetsUptoRow, standIns := [], harness := (true, "10b820d93edc75a03fcf82848e227e8cc1ea5435401d0848f4a06bfcc0119b91"), looks := true }, kinds := [], alts := [], laidByText := true, laidKinds := [.handle], laidTests := true, laidLooks := .later }
def CausalMeetsUptoCardSaid : Prop := Claim7.holds Tryz.pinned (.plain (OpenSpec.upto causalMeetsSpec)) causalMeetsUptoCard
end Rows
end Go.Proofs.YtnmmnejoldbeiaaGreatDoor

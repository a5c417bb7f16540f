/-
  DERIVED. GIVEN WITH THE SEED: THE CARDS: each row of YtgninfpdomcobaaDoorRows.lean that lists a variable, with what it lists TIED to the program's text (the seventh form; the later family's looks); each row that meets fmt, with fmt's text TOLD by the authors' own Lean function (tested against real Go, not proved from fmt's source: count such statements apart). THE CARD IS WHAT COUNTS. Prove the row's statement (the work); the ties are given (YtgninfpdomcobaaDoorTie.lean); close each card by the builder's one call (the guide's Derived/Test/ToyasCard.lean, 'card_holds'). Laid BY PROGRAM, IN A SANDBOX (cutbox-door.mjs). By AI agents, Wed Nov 11 2026. No macro, syntax, notation, axiom, sorry.
-/
import Derived.Test.YtgninfpdomcobaaDoorRows
import GoSem.ClaimSeven
namespace Go.Proofs.YtgninfpdomcobaaDoor
namespace Rows

/-- THE TIED CARD OF 'leaflaw4.DotSteps'. -/
def dotStepsCard : Claim7 := { stood := { row := dotStepsRow, standIns := [], harness := (true, "8d90ca36a8a86fa456840297943d80768af976a22563fca619375f2327ba548d"), looks := true }, kinds := [], alts := [], laidByText := true, laidKinds := [.handle], laidTests := true, laidLooks := .later }
def DotStepsCardSaid : Prop := Claim7.holds Tryd.pinned (.plain (OpenSpec.ofChange dotStepsSpec)) dotStepsCard

/-- THE TIED CARD OF 'leaflaw2.LinkPlays'. -/
def linkPlaysCard : Claim7 := { stood := { row := linkPlaysRow, standIns := [], harness := (true, "8d90ca36a8a86fa456840297943d80768af976a22563fca619375f2327ba548d"), looks := true }, kinds := [], alts := [], laidByText := true, laidKinds := [.handle], laidTests := true, laidLooks := .later }
def LinkPlaysCardSaid : Prop := Claim7.holds Tryd.pinned (.plain (OpenSpec.ofChange linkPlaysSpec)) linkPlaysCard

/-- THE TIED CARD OF 'leaflaw4.PlaceRow'. -/
def placeRowCard : Claim7 := { stood := { row := placeRowRow, standIns := [], harness := (true, "8d90ca36a8a86fa456840297943d80768af976a22563fca619375f2327ba548d"), looks := true }, kinds := [], alts := [], laidByText := true, laidKinds := [.handle], laidTests := true, laidLooks := .later }
def PlaceRowCardSaid : Prop := Claim7.holds Tryd.pinned (.plain (OpenSpec.ofChange placeRowSpec)) placeRowCard

/-- THE TIED CARD OF 'leaflaw4.CacheKeeps'. -/
def cacheKeepsCard : Claim7 := { stood := { row := cacheKeepsRow, standIns := [], harness := (true, "8d90ca36a8a86fa456840297943d80768af976a22563fca619375f2327ba548d"), looks := true }, kinds := [], alts := [], laidByText := true, laidKinds := [.handle], laidTests := true, laidLooks := .later }
def CacheKeepsCardSaid : Prop := Claim7.holds Tryd.pinned (.plain (OpenSpec.ofChange cacheKeepsSpec)) cacheKeepsCard

/-- THE SECOND FORM's CARD OF 'leaflaw4.DotSteps'. -/
def dotStepsUptoCard : Claim7 := { stood := { row := dotStepsUptoRow, standIns := [], harness := (true, "8d90ca36a8a86fa456840297943d80768af976a22563fca619375f2327ba548d"), looks := true }, kinds := [], alts := [], laidByText := true, laidKinds := [.handle], laidTests := true, laidLooks := .later }
def DotStepsUptoCardSaid : Prop := Claim7.holds Tryd.pinned (.plain (OpenSpec.upto dotStepsSpec)) dotStepsUptoCard

/-- THE SECOND FORM's CARD OF 'leaflaw2.LinkPlays'. -/
def linkPlaysUptoCard : Claim7 := { stood := { row := linkPlaysUptoRow, standIns := [], harness := (true, "8d90ca36a8a86fa456840297943d80768af976a22563fca619375f2327ba548d"), looks := true }, kinds := [], alts := [], laidByText := true, laidKinds := [.handle], laidTests := true, laidLooks := .later }
def LinkPlaysUptoCardSaid : Prop := Claim7.holds Tryd.pinned (.plain (OpenSpec.upto linkPlaysSpec)) linkPlaysUptoCard

/-- THE SECOND FORM's CARD OF 'leaflaw4.PlaceRow'. -/
def placeRowUptoCard : Claim7 := { stood := { row := placeRowUptoRow, standIns := [], harness := (true, "8d90ca36a8a86fa456840297943d80768af976a22563fca619375f2327ba548d"), looks := true }, kinds := [], alts := [], laidByText := true, laidKinds := [.handle], laidTests := true, laidLooks := .later }
def PlaceRowUptoCardSaid : Prop := Claim7.holds Tryd.pinned (.plain (OpenSpec.upto placeRowSpec)) placeRowUptoCard

/-- THE SECOND FORM's CARD OF 'leaflaw4.CacheKeeps'. -/
def cacheKeepsUptoCard : Claim7 := { stood := { row := cacheKeepsUptoRow, standIns := [], harness := (true, "8d90ca36a8a86fa456840297943d80768af976a22563fca619375f2327ba548d"), looks := true }, kinds := [], alts := [], laidByText := true, laidKinds := [.handle], laidTests := true, laidLooks := .later }
def CacheKeepsUptoCardSaid : Prop := Claim7.holds Tryd.pinned (.plain (OpenSpec.upto cacheKeepsSpec)) cacheKeepsUptoCard
end Rows
end Go.Proofs.YtgninfpdomcobaaDoor

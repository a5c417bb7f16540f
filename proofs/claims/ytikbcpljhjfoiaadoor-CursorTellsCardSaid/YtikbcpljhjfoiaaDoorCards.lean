/-
  DERIVED. GIVEN WITH THE SEED: THE CARDS: each row of YtikbcpljhjfoiaaDoorRows.lean that lists a variable, with what it lists TIED to the program's text (the seventh form; the later family's looks); each row that meets fmt, with fmt's text TOLD by the authors' own Lean function (tested against real Go, not proved from fmt's source: count such statements apart). THE CARD IS WHAT COUNTS. Prove the row's statement (the work); the ties are given (YtikbcpljhjfoiaaDoorTie.lean); close each card by the builder's one call (the guide's Derived/Test/ToyasCard.lean, 'card_holds'). Laid BY PROGRAM, IN A SANDBOX (cutbox-door.mjs). By AI agents, Wed Nov 11 2026. No macro, syntax, notation, axiom, sorry.
-/
import Derived.Test.YtikbcpljhjfoiaaDoorRows
import GoSem.ClaimSeven
namespace Go.Proofs.YtikbcpljhjfoiaaDoor
namespace Rows

/-- THE TIED CARD OF 'leaflaw3.StatTells'. -/
def statTellsCard : Claim7 := { stood := { row := statTellsRow, standIns := [], harness := (true, "5b842ca077a7f1310c9d86b4b96a219d9245587551bfcddd86bd42968a9ff7fb"), looks := true }, kinds := [], alts := [], laidByText := true, laidKinds := [.handle], laidTests := true, laidLooks := .later }
def StatTellsCardSaid : Prop := Claim7.holds Tryd.pinned (.plain (OpenSpec.ofChange statTellsSpec)) statTellsCard

/-- THE TIED CARD OF 'leaflaw1.PlaceTells'. -/
def placeTellsCard : Claim7 := { stood := { row := placeTellsRow, standIns := [], harness := (true, "5b842ca077a7f1310c9d86b4b96a219d9245587551bfcddd86bd42968a9ff7fb"), looks := true }, kinds := [], alts := [], laidByText := true, laidKinds := [.handle], laidTests := true, laidLooks := .later }
def PlaceTellsCardSaid : Prop := Claim7.holds Tryd.pinned (.plain (OpenSpec.ofChange placeTellsSpec)) placeTellsCard

/-- THE TIED CARD OF 'leaflaw3.DiffTells'. -/
def diffTellsCard : Claim7 := { stood := { row := diffTellsRow, standIns := [], harness := (true, "5b842ca077a7f1310c9d86b4b96a219d9245587551bfcddd86bd42968a9ff7fb"), looks := true }, kinds := [], alts := [], laidByText := true, laidKinds := [.handle], laidTests := true, laidLooks := .later }
def DiffTellsCardSaid : Prop := Claim7.holds Tryd.pinned (.plain (OpenSpec.ofChange diffTellsSpec)) diffTellsCard

/-- THE TIED CARD OF 'leaflaw2.CursorTells'. -/
def cursorTellsCard : Claim7 := { stood := { row := cursorTellsRow, standIns := [], harness := (true, "5b842ca077a7f1310c9d86b4b96a219d9245587551bfcddd86bd42968a9ff7fb"), looks := true }, kinds := [], alts := [], laidByText := true, laidKinds := [.handle], laidTests := true, laidLooks := .later }
def CursorTellsCardSaid : Prop := Claim7.holds Tryd.pinned (.plain (OpenSpec.ofChange cursorTellsSpec)) cursorTellsCard

/-- THE TIED CARD OF 'leaflaw1.OpTells'. -/
def opTellsCard : Claim7 := { stood := { row := opTellsRow, standIns := [], harness := (true, "5b842ca077a7f1310c9d86b4b96a219d9245587551bfcddd86bd42968a9ff7fb"), looks := true }, kinds := [], alts := [], laidByText := true, laidKinds := [.handle], laidTests := true, laidLooks := .later }
def OpTellsCardSaid : Prop := Claim7.holds Tryd.pinned (.plain (OpenSpec.ofChange opTellsSpec)) opTellsCard

/-- THE TIED CARD OF 'leaflaw1.DirTells'. -/
def dirTellsCard : Claim7 := { stood := { row := dirTellsRow, standIns := [], harness := (true, "5b842ca077a7f1310c9d86b4b96a219d9245587551bfcddd86bd42968a9ff7fb"), looks := true }, kinds := [], alts := [], laidByText := true, laidKinds := [.handle], laidTests := true, laidLooks := .later }
def DirTellsCardSaid : Prop := Claim7.holds Tryd.pinned (.plain (OpenSpec.ofChange dirTellsSpec)) dirTellsCard

/-- THE TIED CARD OF 'leaflaw4.BookFull'. -/
def bookFullCard : Claim7 := { stood := { row := bookFullRow, standIns := [], harness := (true, "5b842ca077a7f1310c9d86b4b96a219d9245587551bfcddd86bd42968a9ff7fb"), looks := true }, kinds := [], alts := [], laidByText := true, laidKinds := [.handle], laidTests := true, laidLooks := .later }
def BookFullCardSaid : Prop := Claim7.holds Tryd.pinned (.plain (OpenSpec.ofChange bookFullSpec)) bookFullCard

/-- THE TIED CARD OF 'leaflaw1.BookTells'. -/
def bookTellsCard : Claim7 := { stood := { row := bookTellsRow, standIns := [], harness := (true, "5b842ca077a7f1310c9d86b4b96a219d9245587551bfcddd86bd42968a9ff7fb"), looks := true }, kinds := [], alts := [], laidByText := true, laidKinds := [.handle], laidTests := true, laidLooks := .later }
def BookTellsCardSaid : Prop := Claim7.holds Tryd.pinned (.plain (OpenSpec.ofChange bookTellsSpec)) bookTellsCard

/-- THE TIED CARD OF 'leaflaw1.MarksTell'. -/
def marksTellCard : Claim7 := { stood := { row := marksTellRow, standIns := [], harness := (true, "5b842ca077a7f1310c9d86b4b96a219d9245587551bfcddd86bd42968a9ff7fb"), looks := true }, kinds := [], alts := [], laidByText := true, laidKinds := [.handle], laidTests := true, laidLooks := .later }
def MarksTellCardSaid : Prop := Claim7.holds Tryd.pinned (.plain (OpenSpec.ofChange marksTellSpec)) marksTellCard

/-- THE TIED CARD OF 'leaflaw4.MarksFull'. -/
def marksFullCard : Claim7 := { stood := { row := marksFullRow, standIns := [], harness := (true, "5b842ca077a7f1310c9d86b4b96a219d9245587551bfcddd86bd42968a9ff7fb"), looks := true }, kinds := [], alts := [], laidByText := true, laidKinds := [.handle], laidTests := true, laidLooks := .later }
def MarksFullCardSaid : Prop := Claim7.holds Tryd.pinned (.plain (OpenSpec.ofChange marksFullSpec)) marksFullCard

/-- THE SECOND FORM's CARD OF 'leaflaw3.StatTells'. -/
def statTellsUptoCard : Claim7 := { stood := { row := statTellsUptoRow, standIns := [], harness := (true, "5b842ca077a7f1310c9d86b4b96a219d9245587551bfcddd86bd42968a9ff7fb"), looks := true }, kinds := [], alts := [], laidByText := true, laidKinds := [.handle], laidTests := true, laidLooks := .later }
def StatTellsUptoCardSaid : Prop := Claim7.holds Tryd.pinned (.plain (OpenSpec.upto statTellsSpec)) statTellsUptoCard

/-- THE SECOND FORM's CARD OF 'leaflaw1.PlaceTells'. -/
def placeTellsUptoCard : Claim7 := { stood := { row := placeTellsUptoRow, standIns := [], harness := (true, "5b842ca077a7f1310c9d86b4b96a219d9245587551bfcddd86bd42968a9ff7fb"), looks := true }, kinds := [], alts := [], laidByText := true, laidKinds := [.handle], laidTests := true, laidLooks := .later }
def PlaceTellsUptoCardSaid : Prop := Claim7.holds Tryd.pinned (.plain (OpenSpec.upto placeTellsSpec)) placeTellsUptoCard

/-- THE SECOND FORM's CARD OF 'leaflaw3.DiffTells'. -/
def diffTellsUptoCard : Claim7 := { stood := { row := diffTellsUptoRow, standIns := [], harness := (true, "5b842ca077a7f1310c9d86b4b96a219d9245587551bfcddd86bd42968a9ff7fb"), looks := true }, kinds := [], alts := [], laidByText := true, laidKinds := [.handle], laidTests := true, laidLooks := .later }
def DiffTellsUptoCardSaid : Prop := Claim7.holds Tryd.pinned (.plain (OpenSpec.upto diffTellsSpec)) diffTellsUptoCard

/-- THE SECOND FORM's CARD OF 'leaflaw2.CursorTells'. -/
def cursorTellsUptoCard : Claim7 := { stood := { row := cursorTellsUptoRow, standIns := [], harness := (true, "5b842ca077a7f1310c9d86b4b96a219d9245587551bfcddd86bd42968a9ff7fb"), looks := true }, kinds := [], alts := [], laidByText := true, laidKinds := [.handle], laidTests := true, laidLooks := .later }
def CursorTellsUptoCardSaid : Prop := Claim7.holds Tryd.pinned (.plain (OpenSpec.upto cursorTellsSpec)) cursorTellsUptoCard

/-- THE SECOND FORM's CARD OF 'leaflaw1.OpTells'. -/
def opTellsUptoCard : Claim7 := { stood := { row := opTellsUptoRow, standIns := [], harness := (true, "5b842ca077a7f1310c9d86b4b96a219d9245587551bfcddd86bd42968a9ff7fb"), looks := true }, kinds := [], alts := [], laidByText := true, laidKinds := [.handle], laidTests := true, laidLooks := .later }
def OpTellsUptoCardSaid : Prop := Claim7.holds Tryd.pinned (.plain (OpenSpec.upto opTellsSpec)) opTellsUptoCard

/-- THE SECOND FORM's CARD OF 'leaflaw1.DirTells'. -/
def dirTellsUptoCard : Claim7 := { stood := { row := dirTellsUptoRow, standIns := [], harness := (true, "5b842ca077a7f1310c9d86b4b96a219d9245587551bfcddd86bd42968a9ff7fb"), looks := true }, kinds := [], alts := [], laidByText := true, laidKinds := [.handle], laidTests := true, laidLooks := .later }
def DirTellsUptoCardSaid : Prop := Claim7.holds Tryd.pinned (.plain (OpenSpec.upto dirTellsSpec)) dirTellsUptoCard

/-- THE SECOND FORM's CARD OF 'leaflaw4.BookFull'. -/
def bookFullUptoCard : Claim7 := { stood := { row := bookFullUptoRow, standIns := [], harness := (true, "5b842ca077a7f1310c9d86b4b96a219d9245587551bfcddd86bd42968a9ff7fb"), looks := true }, kinds := [], alts := [], laidByText := true, laidKinds := [.handle], laidTests := true, laidLooks := .later }
def BookFullUptoCardSaid : Prop := Claim7.holds Tryd.pinned (.plain (OpenSpec.upto bookFullSpec)) bookFullUptoCard

/-- THE SECOND FORM's CARD OF 'leaflaw1.BookTells'. -/
def bookTellsUptoCard : Claim7 := { stood := { row := bookTellsUptoRow, standIns := [], harness := (true, "5b842ca077a7f1310c9d86b4b96a219d9245587551bfcddd86bd42968a9ff7fb"), looks := true }, kinds := [], alts := [], laidByText := true, laidKinds := [.handle], laidTests := true, laidLooks := .later }
def BookTellsUptoCardSaid : Prop := Claim7.holds Tryd.pinned (.plain (OpenSpec.upto bookTellsSpec)) bookTellsUptoCard

/-- THE SECOND FORM's CARD OF 'leaflaw1.MarksTell'. -/
def marksTellUptoCard : Claim7 := { stood := { row := marksTellUptoRow, standIns := [], harness := (true, "5b842ca077a7f1310c9d86b4b96a219d9245587551bfcddd86bd42968a9ff7fb"), looks := true }, kinds := [], alts := [], laidByText := true, laidKinds := [.handle], laidTests := true, laidLooks := .later }
def MarksTellUptoCardSaid : Prop := Claim7.holds Tryd.pinned (.plain (OpenSpec.upto marksTellSpec)) marksTellUptoCard

/-- THE SECOND FORM's CARD OF 'leaflaw4.MarksFull'. -/
def marksFullUptoCard : Claim7 := { stood := { row := marksFullUptoRow, standIns := [], harness := (true, "5b842ca077a7f1310c9d86b4b96a219d9245587551bfcddd86bd42968a9ff7fb"), looks := true }, kinds := [], alts := [], laidByText := true, laidKinds := [.handle], laidTests := true, laidLooks := .later }
def MarksFullUptoCardSaid : Prop := Claim7.holds Tryd.pinned (.plain (OpenSpec.upto marksFullSpec)) marksFullUptoCard
end Rows
end Go.Proofs.YtikbcpljhjfoiaaDoor

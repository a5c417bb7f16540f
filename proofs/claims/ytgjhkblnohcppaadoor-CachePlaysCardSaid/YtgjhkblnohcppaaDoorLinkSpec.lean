/- The end of a line as plain data: what the program's package link does, and how it lies in memory. Conditions: none. -/
import Derived.Deep.DeepCutAuto
import Derived.Deep.RegionHeld3
import Derived.Test.YtgjhkblnohcppaaDoorStrs
namespace Go.Proofs.YtgjhkblnohcppaaDoor
open Go.RowKit

structure LEnd where
  win : Nat
  wait : Nat
  data : List ByteArray
  acked : Nat
  said : Nat
  ticks : Nat
  got : List ByteArray
  owes : Bool

structure LFrame where
  ack : Bool
  seq : Int
  data : ByteArray

def LEnd.new (win wait : Nat) : LEnd := ⟨win, wait, [], 0, 0, 0, [], false⟩
/-- How many of these it passes over, as it said them already. -/
def LEnd.skip (st : LEnd) : Nat := if st.wait ≤ st.ticks then 0 else max st.said st.acked - st.acked
def LEnd.ackFrames (st : LEnd) : List LFrame := if st.owes then [⟨true, st.got.length, ⟨#[]⟩⟩] else []
def LEnd.tick (st : LEnd) : LEnd := { st with ticks := st.ticks + 1 }
theorem elemS : Elem Tryd.prog 31 9 1 16 := Elem.mk_ (z := .string ⟨#[]⟩) Tryd.underlying31 (by kernel_rfl) rfl (by decide)
/-- The blocks of an end. -/
def endBlocks (b : Nat) (A G : Option Addr) : List Nat := b :: (ob A ++ ob G)
section
variable {w w' : World} {B b ca cg : Nat} {A G : Option Addr} {st : LEnd}
end
end Go.Proofs.YtgjhkblnohcppaaDoor

/- Bytes as cells: plain. Conditions: none. -/
import Derived.Test.YthfbjfocmnikaaaGreatDoorMem
namespace Go.Proofs.YthfbjfocmnikaaaGreatDoor
open Go.RowKit
set_option linter.unusedVariables false
theorem elemB : Elem Tryz.prog 122 5 1 1 := Elem.mk_ (z := .int .u8 0) Tryz.underlying122 (by kernel_rfl) rfl (by decide)
def bs (l : List UInt8) : List Value := l.map fun b => .int .u8 b.toNat
theorem bs_append (a b : List UInt8) : bs a ++ bs b = bs (a ++ b) := by simp [bs]
theorem bs_len (l : List UInt8) : (bs l).length = l.length := by simp [bs]
theorem oneCells_bs (l : List UInt8) : OneCells (bs l) := by
  intro u hu
  simp only [bs, List.mem_map] at hu
  obtain ⟨b, _, rfl⟩ := hu
  rfl
def u8 (n : Int) : UInt8 := UInt8.ofNat n.toNat
theorem u8_val {n : Int} (h0 : 0 ≤ n) (h1 : n ≤ 255) : ((u8 n).toNat : Int) = n := by simp [u8]; omega
end Go.Proofs.YthfbjfocmnikaaaGreatDoor

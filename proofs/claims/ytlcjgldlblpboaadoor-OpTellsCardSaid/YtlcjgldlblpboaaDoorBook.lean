/- Leafs in memory; book.Check, Seen, walked. Conditions: places that an int may count. -/
import Derived.Deep.RegionHeld3
import Derived.Test.YtlcjgldlblpboaaDoorLetter
import Derived.Test.YtlcjgldlblpboaaDoorOpen
namespace Go.Proofs.YtlcjgldlblpboaaDoor
open Go.RowKit
set_option linter.unusedVariables false

structure LLeaf where
  place : ByteArray
  letter : Int
  struck : Bool
instance : Inhabited LLeaf := ⟨⟨⟨#[]⟩, 0, false⟩⟩
def LLeaf.cells (x : LLeaf) : List Value := [.string x.place, .int .i64 x.letter, .bool x.struck]
theorem LLeaf.cells_len (x : LLeaf) : x.cells.length = 3 := rfl
def LLeaf.box (x : LLeaf) : Array Value := #[.string x.place, .int .i64 x.letter, .bool x.struck]
def lcells (l : List LLeaf) : List Value := l.flatMap LLeaf.cells
theorem lcells_len (l : List LLeaf) : (lcells l).length = l.length * 3 := flat_len_of LLeaf.cells_len l
theorem lcells_at (l : List LLeaf) (k r : Nat) (hk : k < l.length) (hr : r < 3) : (lcells l)[k * 3 + r]? = l[k].cells[r]? := by
  unfold lcells
  rw [flat_at LLeaf.cells_len (by decide), show (k * 3 + r) / 3 = k by omega, show (k * 3 + r) % 3 = r by omega, List.getElem?_eq_getElem hk]
  rfl
theorem lcells_append (a b : List LLeaf) : lcells a ++ lcells b = lcells (a ++ b) := by simp [lcells]
theorem oneCells_l (l : List LLeaf) : OneCells (lcells l) := by
  intro u hu
  simp only [lcells, List.mem_flatMap] at hu
  obtain ⟨e, _, hu⟩ := hu
  simp only [LLeaf.cells, List.mem_cons, List.not_mem_nil, or_false] at hu
  rcases hu with rfl | rfl | rfl <;> rfl
/-- A leaf of the row, read. -/
theorem Reads.leaf {w : World} {B : Nat} {A : Option Addr} {l : List LLeaf} (h : Reads w B 3 A l.length (lcells l)) {k : Nat} (hk : k < l.length) :
    ∃ ad, A = some ad ∧ ad.block < B ∧ w.cell? (ad.add (k * 3)) = some (.string l[k].place) ∧ w.cell? ⟨(ad.add (k * 3)).block, (ad.add (k * 3)).off + 1, none⟩ = some (.int .i64 l[k].letter) ∧
      w.cell? ⟨(ad.add (k * 3)).block, (ad.add (k * 3)).off + 2, none⟩ = some (.bool l[k].struck) := by
  obtain ⟨ad, e, hb, hc⟩ := h.2 (by omega)
  refine ⟨ad, e, hb, ?_, ?_, ?_⟩
  · exact hc _ _ (by rw [show k * 3 = k * 3 + 0 from rfl, lcells_at l k 0 hk (by omega)]; rfl)
  · rw [show (⟨(ad.add (k * 3)).block, (ad.add (k * 3)).off + 1, none⟩ : Addr) = (ad.add (k * 3)).add 1 from rfl, add_of_add]
    exact hc _ _ (by rw [lcells_at l k 1 hk (by omega)]; rfl)
  · rw [show (⟨(ad.add (k * 3)).block, (ad.add (k * 3)).off + 2, none⟩ : Addr) = (ad.add (k * 3)).add 2 from rfl, add_of_add]
    exact hc _ _ (by rw [lcells_at l k 2 hk (by omega)]; rfl)

def leafErr (prev : Option LLeaf) (x : LLeaf) : Int :=
  if placeErr x.place ≠ 0 then placeErr x.place else if x.letter ≠ 0 ∧ letterB x.letter = false then 1 else if x.letter = 0 ∧ x.struck = false then 3
  else if (match prev with | none => true | some p => Op.bytesLess p.place.toList x.place.toList) = false then 7 else 0
def bookFault (prev : Option LLeaf) : List LLeaf → Int
  | [] => 0
  | x :: l => if leafErr prev x ≠ 0 then leafErr prev x else bookFault (some x) l
/-- What is wrong with a book. -/
def bookErr (l : List LLeaf) : Int := if 300 < l.length then 4 else bookFault none l
def prevAt (l : List LLeaf) (k : Nat) : Option LLeaf := if k = 0 then none else l[k - 1]?
def seenB (x : LLeaf) : Bool := (x.letter != 0) && !x.struck
def Sized (l : List LLeaf) : Prop := ∀ x ∈ l, x.place.size ≤ 9223372036854775807

def BookLoop (w : World) (l : List LLeaf) (i : Value) (wr : World) : Prop :=
  ∃ k : Nat, k ≤ l.length ∧ i = .int .i64 k ∧ Hid (Below w.heap.size w wr) ∧ Hid (bookErr l = bookFault (prevAt l k) (l.drop k))

end Go.Proofs.YtlcjgldlblpboaaDoor

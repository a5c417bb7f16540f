/- 2 texts in one: each says ahead of itself what is proved, and its conditions. -/
import Derived.Deep.RegionHeld3
import Derived.Test.YtlcjgldlblpboaaDoorDot
import Derived.Test.YtlcjgldlblpboaaDoorLess
import Derived.Test.YtlcjgldlblpboaaDoorOpen
import Derived.Test.YtlcjgldlblpboaaDoorShelfCmp
/- Marks in memory; marks.one, order, Check, walked. Conditions: places that an int may count. -/
namespace Go.Proofs.YtlcjgldlblpboaaDoor
open Go.RowKit
set_option linter.unusedVariables false

structure LMark where
  place : ByteArray
  dot : LDot
instance : Inhabited LMark := ⟨⟨⟨#[]⟩, ⟨0, 0⟩⟩⟩
def LMark.cells (m : LMark) : List Value := [.string m.place, .int .i64 m.dot.who, .int .i64 m.dot.n]
theorem LMark.cells_len (m : LMark) : m.cells.length = 3 := rfl
def mcells (l : List LMark) : List Value := l.flatMap LMark.cells
theorem mcells_len (l : List LMark) : (mcells l).length = l.length * 3 := flat_len_of LMark.cells_len l
theorem mcells_at (l : List LMark) (k r : Nat) (hk : k < l.length) (hr : r < 3) : (mcells l)[k * 3 + r]? = l[k].cells[r]? := by
  unfold mcells
  rw [flat_at LMark.cells_len (by decide), show (k * 3 + r) / 3 = k by omega, show (k * 3 + r) % 3 = r by omega, List.getElem?_eq_getElem hk]
  rfl
/-- A mark of the row, read. -/
theorem Reads.mark {w : World} {B : Nat} {A : Option Addr} {l : List LMark} (h : Reads w B 3 A l.length (mcells l)) {k : Nat} (hk : k < l.length) :
    ∃ ad, A = some ad ∧ ad.block < B ∧ w.cell? (ad.add (k * 3)) = some (.string l[k].place) ∧ w.cell? ⟨(ad.add (k * 3)).block, (ad.add (k * 3)).off + 1, none⟩ = some (.int .i64 l[k].dot.who) ∧
      w.cell? ⟨(ad.add (k * 3)).block, (ad.add (k * 3)).off + 2, none⟩ = some (.int .i64 l[k].dot.n) := by
  obtain ⟨ad, e, hb, hc⟩ := h.2 (by omega)
  refine ⟨ad, e, hb, ?_, ?_, ?_⟩
  · exact hc _ _ (by rw [show k * 3 = k * 3 + 0 from rfl, mcells_at l k 0 hk (by omega)]; rfl)
  · rw [show (⟨(ad.add (k * 3)).block, (ad.add (k * 3)).off + 1, none⟩ : Addr) = (ad.add (k * 3)).add 1 from rfl, add_of_add]
    exact hc _ _ (by rw [mcells_at l k 1 hk (by omega)]; rfl)
  · rw [show (⟨(ad.add (k * 3)).block, (ad.add (k * 3)).off + 2, none⟩ : Addr) = (ad.add (k * 3)).add 2 from rfl, add_of_add]
    exact hc _ _ (by rw [mcells_at l k 2 hk (by omega)]; rfl)

def markErr (m : LMark) : Int := if placeErr m.place ≠ 0 then placeErr m.place else dotErr m.dot
def ordM (a b : LMark) : Int := orI (Lib.compareBytes a.place.data.toList b.place.data.toList) (ordD a.dot b.dot)
def marksFault (prev : Option LMark) : List LMark → Int
  | [] => 0
  | m :: l => if markErr m ≠ 0 then markErr m else if (match prev with | none => false | some p => decide (0 ≤ ordM p m)) = true then 7 else marksFault (some m) l
/-- What is wrong with marks. -/
def marksErr (l : List LMark) : Int := if 40 < l.length then 4 else marksFault none l

end Go.Proofs.YtlcjgldlblpboaaDoor
/- marks.Check, walked. Conditions: places that an int may count. -/
namespace Go.Proofs.YtlcjgldlblpboaaDoor
open Go.RowKit
set_option linter.unusedVariables false

theorem below_of_drew {B : Nat} {w w' : World} (h : Below B w.drew w') : Below B w w' := ⟨h.os, h.tape, h.output, h.size, h.block⟩
def MSized (l : List LMark) : Prop := ∀ x ∈ l, x.place.size ≤ 9223372036854775807
def mprevAt (l : List LMark) (k : Nat) : Option LMark := if k = 0 then none else l[k - 1]?
def mClash (prev : Option LMark) (m : LMark) : Bool := match prev with | none => false | some p => decide (0 ≤ ordM p m)
theorem marksFault_cons (prev : Option LMark) (m : LMark) (l : List LMark) : marksFault prev (m :: l) = if markErr m ≠ 0 then markErr m else if mClash prev m = true then 7 else marksFault (some m) l := rfl
def MarksLoop (w : World) (l : List LMark) (i : Value) (wr : World) : Prop :=
  ∃ k : Nat, k ≤ l.length ∧ i = .int .i64 k ∧ Hid (Below w.heap.size w wr) ∧ Hid (marksErr l = marksFault (mprevAt l k) (l.drop k))
end Go.Proofs.YtlcjgldlblpboaaDoor

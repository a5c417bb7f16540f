/- marks.SeenAt, Seen, walked. Conditions: places that an int may count. -/
import Derived.Test.YtnmmnejoldbeiaaGreatDoorMarkLaw
namespace Go.Proofs.YtnmmnejoldbeiaaGreatDoor
open Go.RowKit
set_option linter.unusedVariables false

theorem elemD : Elem Tryz.prog 28 27 2 16 := Elem.mk_ (z := .agg #[.int .i64 0, .int .i64 0]) Tryz.underlying28 (by kernel_rfl) rfl (by decide)
theorem oneCells_d (l : List LDot) : OneCells (dcells l) := by
  intro u hu
  simp only [dcells, List.mem_flatMap] at hu
  obtain ⟨e, _, hu⟩ := hu
  simp only [LDot.cells, List.mem_cons, List.not_mem_nil, or_false] at hu
  rcases hu with rfl | rfl <;> rfl
theorem dcells_append (a b : List LDot) : dcells a ++ dcells b = dcells (a ++ b) := by simp [dcells]
theorem seenAt_len (l : List LMark) (p : ByteArray) : (seenAt l p).length ≤ l.length := by
  unfold seenAt; rw [List.length_map]; exact List.length_filter_le _ _
theorem seenAt_take {l : List LMark} {p : ByteArray} {k : Nat} (h : k < l.length) : seenAt (l.take (k + 1)) p = seenAt (l.take k) p ++ (if l[k].place = p then [l[k].dot] else []) := by
  unfold seenAt
  rw [List.take_succ_eq_append_getElem h, List.filter_append, List.map_append]
  congr 1
  by_cases hp : l[k].place = p <;> simp [hp]
def SeenLoop (w : World) (l : List LMark) (p : ByteArray) (v i : Value) (wr : World) : Prop :=
  ∃ (k cv : Nat) (V : Option Addr), k ≤ l.length ∧ i = .int .i64 k ∧ v = .slice V (seenAt (l.take k) p).length cv ∧ Hid (Own wr w.heap.size 27 2 V (seenAt (l.take k) p).length cv (dcells (seenAt (l.take k) p))) ∧ Hid (Below w.heap.size w wr)
/-- Dots are given back; they are of the call's own. -/
def DotsPost (w : World) (l : List LDot) (e : Ending) (w' : World) : Prop :=
  ∃ V c, e = .returned (.slice V l.length c) ∧ Own w' w.heap.size 27 2 V l.length c (dcells l) ∧ Below w.heap.size w w'
/-- Dots and an error are given back. -/
def DotsErr (w : World) (l : List LDot) (k : Int) (e : Ending) (w' : World) : Prop :=
  ∃ V c, e = .returned (.tuple #[.slice V l.length c, errV k]) ∧ Own w' w.heap.size 27 2 V l.length c (dcells l) ∧ Below w.heap.size w w'
def giveD (k : Int) (l : List LDot) : List LDot := if k = 0 then l else []
theorem giveD_bad {k : Int} (h : k ≠ 0) (l : List LDot) : giveD k l = [] := if_neg h
theorem dots_none {w w' : World} {k : Int} (hb : Below w.heap.size w w') : DotsErr w [] k (.returned (.tuple #[.slice none 0 0, errV k])) w' := ⟨none, 0, rfl, Own.nil _ _ _ _, hb⟩
end Go.Proofs.YtnmmnejoldbeiaaGreatDoor

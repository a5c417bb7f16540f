/- 3 texts in one: each says ahead of itself what is proved, and its conditions. -/
import Derived.Test.YteiadcdaleckjaaDoorMarkCut
import Derived.Test.YteiadcdaleckjaaDoorMarkLaw
/- marks.SeenAt, Seen, walked. Conditions: places that an int may count. -/
namespace Go.Proofs.YteiadcdaleckjaaDoor
open Go.RowKit
set_option linter.unusedVariables false

theorem oneCells_d (l : List LDot) : OneCells (dcells l) := by
  intro u hu
  simp only [dcells, List.mem_flatMap] at hu
  obtain ⟨e, _, hu⟩ := hu
  simp only [LDot.cells, List.mem_cons, List.not_mem_nil, or_false] at hu
  rcases hu with rfl | rfl <;> rfl
theorem dcells_append (a b : List LDot) : dcells a ++ dcells b = dcells (a ++ b) := by simp [dcells]
theorem seenAt_len (l : List LMark) (p : ByteArray) : (seenAt l p).length ≤ l.length := by
  unfold seenAt; rw [List.length_map]; exact List.length_filter_le _ _
theorem seenAt_take {l : List LMark} {p : ByteArray} {k : Nat} (h : k < l.length) : seenAt (l.take (k + 1)) p = seenAt (l.take k) p ++ (if l[k].place = p then [l[k].dot] else []) := by
  unfold seenAt
  rw [List.take_succ_eq_append_getElem h, List.filter_append, List.map_append]
  congr 1
  by_cases hp : l[k].place = p <;> simp [hp]
def SeenLoop (w : World) (l : List LMark) (p : ByteArray) (v i : Value) (wr : World) : Prop :=
  ∃ (k cv : Nat) (V : Option Addr), k ≤ l.length ∧ i = .int .i64 k ∧ v = .slice V (seenAt (l.take k) p).length cv ∧ Hid (Own wr w.heap.size 69 2 V (seenAt (l.take k) p).length cv (dcells (seenAt (l.take k) p))) ∧ Hid (Below w.heap.size w wr)
/-- Dots are given back; they are of the call's own. -/
def DotsPost (w : World) (l : List LDot) (e : Ending) (w' : World) : Prop :=
  ∃ V c, e = .returned (.slice V l.length c) ∧ Own w' w.heap.size 69 2 V l.length c (dcells l) ∧ Below w.heap.size w w'
/-- Dots and an error are given back. -/
def DotsErr (w : World) (l : List LDot) (k : Int) (e : Ending) (w' : World) : Prop :=
  ∃ V c, e = .returned (.tuple #[.slice V l.length c, errV k]) ∧ Own w' w.heap.size 69 2 V l.length c (dcells l) ∧ Below w.heap.size w w'
def giveD (k : Int) (l : List LDot) : List LDot := if k = 0 then l else []
theorem giveD_bad {k : Int} (h : k ≠ 0) (l : List LDot) : giveD k l = [] := if_neg h
theorem dots_none {w w' : World} {k : Int} (hb : Below w.heap.size w w') : DotsErr w [] k (.returned (.tuple #[.slice none 0 0, errV k])) w' := ⟨none, 0, rfl, Own.nil _ _ _ _, hb⟩
end Go.Proofs.YteiadcdaleckjaaDoor
/- Is a dot among some (slices.Index, Contains); which marks a join takes away; slices.IndexFunc of marks, walked. Conditions: few dots. -/
namespace Go.Proofs.YteiadcdaleckjaaDoor
open Go.RowKit
set_option linter.unusedVariables false
namespace MarkJoin
set_option maxRecDepth 100000 in
theorem eq_dot (W : World) (x0 y0 : Int) (x1 y1 : Int) : (Op.equalIn 10000 69 (.agg #[.int .i64 x0, .int .i64 x1]) (.agg #[.int .i64 y0, .int .i64 y1])).run Tryd.prog W = .ok (x0 == y0 && (x1 == y1)) W := by
  have ui := Tryd.underlying3
  have hS : Tryd.prog.underlying 69 = some (.struct (Tryd.prog.fieldsOf 69)) := by kernel_rfl
  have hp : Tryd.prog.stoodInHeld 69 = false := by kernel_rfl
  rw [show (10000 : Nat) = 9999 + 1 from rfl, run_equalIn_agg W 9999 69 _ _ hS hp]
  simp only [Program.fieldsOf, Tryd.underlying69]
  go_simp
  by_cases h0 : x0 = y0 <;> by_cases h1 : x1 = y1 <;> simp [h0, h1]
theorem dot_same {x0 y0 : Int} {x1 y1 : Int} : (x0 == y0 && (x1 == y1)) = decide ((⟨x0, x1⟩ : LDot) = ⟨y0, y1⟩) := by
  rw [Bool.eq_iff_iff]
  simp only [Bool.and_eq_true, beq_iff_eq, decide_eq_true_eq, LDot.mk.injEq]
def IdxLoop (w : World) (l : List LDot) (d : LDot) (i : Value) (wr : World) : Prop :=
  ∃ k : Nat, k ≤ l.length ∧ i = .int .i64 k ∧ Hid (Below w.heap.size w wr) ∧ Hid (∀ j (hj : j < l.length), j < k → l[j] ≠ d)
def IdxPost (w : World) (b : Bool) (e : Ending) (w' : World) : Prop := ∃ r : Int, e = .returned (.int .i64 r) ∧ decide (0 ≤ r) = b ∧ Below w.heap.size w w'
/-- What a join has caught. -/
structure Env (w : World) (B : Nat) (p : ByteArray) (seen : List LDot) (b4 b5 : Nat) (A : Option Addr) (c : Nat) : Prop where
  l4 : b4 < B
  l5 : b5 < B
  k4 : w.cell? ⟨b4, 0, none⟩ = some (.string p)
  k5 : w.cell? ⟨b5, 0, none⟩ = some (.slice A seen.length c)
  row : Reads w B 2 A seen.length (dcells seen)
  few : seen.length ≤ 1000
theorem Env.below {w w' : World} {B : Nat} {p : ByteArray} {seen : List LDot} {b4 b5 : Nat} {A : Option Addr} {c : Nat} (h : Env w B p seen b4 b5 A c) (hb : Below B w w') : Env w' B p seen b4 b5 A c :=
  ⟨h.l4, h.l5, (hb.cell h.l4).trans h.k4, (hb.cell h.l5).trans h.k5, h.row.keep (fun p hp => hb.cell hp), h.few⟩
theorem Env.alloc {w : World} {B : Nat} {p : ByteArray} {seen : List LDot} {b4 b5 : Nat} {A : Option Addr} {c : Nat} (h : Env w B p seen b4 b5 A c) (hB : B ≤ w.heap.size) (o : Obj) : Env (w.alloc o) B p seen b4 b5 A c :=
  h.below ((Below.refl _ _).alloc hB _)
/-- The first that is taken away. -/
def FirstAt (l : List LMark) (p : ByteArray) (seen : List LDot) (r : Int) : Prop :=
  (r = -1 ∧ ∀ x ∈ l, joined p seen x = false) ∨ (∃ k, ∃ hk : k < l.length, r = (k : Int) ∧ joined p seen l[k] = true ∧ ∀ j (hj : j < l.length), j < k → joined p seen l[j] = false)
def FirstLoop (w : World) (B : Nat) (l : List LMark) (p : ByteArray) (seen : List LDot) (i : Value) (wr : World) : Prop :=
  ∃ k : Nat, k ≤ l.length ∧ i = .int .i64 k ∧ Hid (Below w.heap.size w wr) ∧ Hid (∀ j (hj : j < l.length), j < k → joined p seen l[j] = false)
def FirstPost (w : World) (l : List LMark) (p : ByteArray) (seen : List LDot) (e : Ending) (w' : World) : Prop := ∃ r : Int, e = .returned (.int .i64 r) ∧ FirstAt l p seen r ∧ Below w.heap.size w w'
end MarkJoin
end Go.Proofs.YteiadcdaleckjaaDoor
/- The document's In, walked. Conditions: few dots. -/
namespace Go.Proofs.YteiadcdaleckjaaDoor
open Go.RowKit MarkJoin
set_option linter.unusedVariables false
def RInLoop (w : World) (l : List LDot) (d : LDot) (i : Value) (wr : World) : Prop :=
  ∃ k : Nat, k ≤ l.length ∧ i = .int .i64 k ∧ Hid (Below w.heap.size w wr) ∧ Hid (∀ j (hj : j < l.length), j < k → l[j] ≠ d)
end Go.Proofs.YteiadcdaleckjaaDoor

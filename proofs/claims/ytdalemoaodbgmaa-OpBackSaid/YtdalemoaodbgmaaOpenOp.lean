/- Arguments opened: ops. Plain lemmas. Conditions: none of our own. -/
import Derived.Test.YtdalemoaodbgmaaOp
import Derived.Test.YtdalemoaodbgmaaOpenDot
namespace Go.Proofs.Ytdalemoaodbgmaa
open Go.RowKit Go.WideShapes Go.ChangeShapes Go.Deep
set_option linter.unusedVariables false

instance : Inhabited LOp := ⟨⟨⟨0, 0⟩, 0, ⟨#[]⟩, 0, []⟩⟩
theorem cellsOp : Try.prog.cellsOf 43 = 6 := by kernel_rfl
theorem cellsDots : Try.prog.cellsOf 41 = 1 := by kernel_rfl
section
variable {H : Type} {enc : TypeId × Value → H} {w : World} {base : Nat} {spare : Nat → Bool} {held : Bool}
/-- An op of memory: as it reads, and where its dots lie. -/
structure OpAt where
  op : LOp
  at_ : Option Addr
  cap : Nat
instance : Inhabited OpAt := ⟨⟨default, none, 0⟩⟩
def OpAt.cells (y : OpAt) : List Value := (y.op.cells y.at_ y.cap).toList
def OpAt.Good (w : World) (y : OpAt) : Prop :=
  Reads w w.heap.size 2 y.at_ y.op.seen.length (dcells y.op.seen) ∧ y.op.place.size ≤ maxLen ∧ I64 y.op.what ∧ I64 y.op.letter ∧ y.op.dot.In ∧ (∀ d ∈ y.op.seen, d.In) ∧ y.op.seen.length ≤ y.cap ∧ y.cap ≤ maxLen
set_option maxRecDepth 100000 in
theorem open_op {fuel : Nat} {cs : List Value} {x : DataW H × List MemPlace} (h : DataW.trod enc Try.prog w base spare held fuel 43 cs = some x) : ∃ y : OpAt, cs = y.cells ∧ y.Good w := by
  have hT := Try.underlying43
  have hl := trod_len hT h
  rw [cellsOp] at hl
  match cs, hl with
  | [c0, c1, c2, c3, c4, c5], _ =>
    obtain ⟨n0, y0, g0⟩ : ∃ n y, DataW.trod enc Try.prog w base spare held n 40 [c0, c1] = some y := trod_field hT h 0 _ rfl 2 cellsDot
    obtain ⟨n1, y1, g1⟩ : ∃ n y, DataW.trod enc Try.prog w base spare held n 3 [c2] = some y := trod_field hT h 1 _ rfl 1 cellsInt
    obtain ⟨n2, y2, g2⟩ : ∃ n y, DataW.trod enc Try.prog w base spare held n 9 [c3] = some y := trod_field hT h 2 _ rfl 1 cellsStr
    obtain ⟨n3, y3, g3⟩ : ∃ n y, DataW.trod enc Try.prog w base spare held n 3 [c4] = some y := trod_field hT h 3 _ rfl 1 cellsInt
    obtain ⟨n4, y4, g4⟩ : ∃ n y, DataW.trod enc Try.prog w base spare held n 41 [c5] = some y := trod_field hT h 4 _ rfl 1 cellsDots
    obtain ⟨d, e0, hd⟩ := open_dot g0
    obtain ⟨a1, e1, _, w1⟩ := DataW.trod_int Try.underlying3 g1
    obtain ⟨a2, e2, _, w2⟩ := DataW.trod_string Try.underlying9 g2
    obtain ⟨a3, e3, _, w3⟩ := DataW.trod_int Try.underlying3 g3
    obtain ⟨A, cap, l, e4, hr, hin, hc1, hc2⟩ := open_dots g4
    simp [LDot.cells] at e0 e1 e2 e3 e4
    obtain ⟨e0, e0'⟩ := e0
    subst e0 e0' e1 e2 e3 e4
    exact ⟨⟨⟨d, a1, a2, a3, l⟩, A, cap⟩, rfl, hr, w2, i64_of_wf w1, i64_of_wf w3, hd, hin, hc1, hc2⟩
set_option maxRecDepth 100000 in
theorem arg_op {r : Reach} {b0 : Nat} {v : Value} {d : DataW H} {p : List MemPlace} (hv : Value.okWide Try.prog w r b0 43 v) (h : DataW.Trod enc Try.prog w base spare held 43 v d p) :
    ∃ y : OpAt, v = y.op.val y.at_ y.cap ∧ y.Good w := by
  obtain ⟨cs, rfl, _⟩ := okWide_struct Try.underlying43 hv
  obtain ⟨fuel, hf⟩ := h
  obtain ⟨y, e, hg⟩ := open_op hf
  refine ⟨y, ?_, hg⟩
  have : cs = y.op.cells y.at_ y.cap := Array.ext' e
  rw [this]
  rfl
end
end Go.Proofs.Ytdalemoaodbgmaa

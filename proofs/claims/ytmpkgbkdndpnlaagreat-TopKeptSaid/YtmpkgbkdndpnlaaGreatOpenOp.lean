/- 2 texts in one: each says ahead of itself what is proved, and its conditions. -/
import Derived.Test.YtmpkgbkdndpnlaaGreatOp
import Derived.Test.YtmpkgbkdndpnlaaGreatOpen
import Derived.Test.YtmpkgbkdndpnlaaGreatRise
/- Arguments opened: dots. Plain lemmas. Conditions: none of our own. -/
namespace Go.Proofs.YtmpkgbkdndpnlaaGreat
open Go.RowKit Go.WideShapes Go.ChangeShapes Go.Deep
set_option linter.unusedVariables false

instance : Inhabited LDot := ⟨⟨0, 0⟩⟩
def LDot.In (d : LDot) : Prop := I64 d.who ∧ I64 d.n
theorem cellsDot : Tryz.prog.cellsOf 33 = 2 := by kernel_rfl
theorem cellsInt : Tryz.prog.cellsOf 3 = 1 := by kernel_rfl
theorem cellsStr : Tryz.prog.cellsOf 9 = 1 := by kernel_rfl
section
variable {H : Type} {enc : TypeId × Value → H} {w : World} {base : Nat} {spare : Nat → Bool} {held : Bool}
set_option maxRecDepth 100000 in
theorem open_dot {fuel : Nat} {cs : List Value} {x : DataW H × List MemPlace} (h : DataW.trod enc Tryz.prog w base spare held fuel 33 cs = some x) : ∃ d : LDot, cs = d.cells ∧ d.In := by
  have hT := Tryz.underlying33
  have hl := trod_len hT h
  rw [cellsDot] at hl
  match cs, hl with
  | [c0, c1], _ =>
    obtain ⟨n0, y0, g0⟩ : ∃ n y, DataW.trod enc Tryz.prog w base spare held n 3 [c0] = some y := trod_field hT h 0 _ rfl 1 cellsInt
    obtain ⟨n1, y1, g1⟩ : ∃ n y, DataW.trod enc Tryz.prog w base spare held n 3 [c1] = some y := trod_field hT h 1 _ rfl 1 cellsInt
    obtain ⟨a0, e0, _, w0⟩ := DataW.trod_int Tryz.underlying3 g0
    obtain ⟨a1, e1, _, w1⟩ := DataW.trod_int Tryz.underlying3 g1
    simp at e0 e1
    subst e0 e1
    exact ⟨⟨a0, a1⟩, rfl, i64_of_wf w0, i64_of_wf w1⟩
theorem dcells_two (y : LDot) : y.cells.length = 2 := rfl
theorem open_dots {fuel : Nat} {cs : List Value} {x : DataW H × List MemPlace} (h : DataW.trod enc Tryz.prog w base spare held fuel 34 cs = some x) :
    ∃ (A : Option Addr) (cap : Nat) (l : List LDot), cs = [.slice A l.length cap] ∧ Reads w w.heap.size 2 A l.length (dcells l) ∧ (∀ y ∈ l, y.In) ∧ l.length ≤ cap ∧ cap ≤ maxLen :=
  open_list LDot.cells LDot.In Tryz.underlying34 cellsDot (by decide) dcells_two (fun _ _ _ h => open_dot h) h
set_option maxRecDepth 100000 in
theorem arg_dots {r : Reach} {b0 : Nat} {v : Value} {d : DataW H} {p : List MemPlace} (hv : Value.okWide Tryz.prog w r b0 34 v) (h : DataW.Trod enc Tryz.prog w base spare held 34 v d p) :
    ∃ (A : Option Addr) (cap : Nat) (l : List LDot), v = .slice A l.length cap ∧ Reads w w.heap.size 2 A l.length (dcells l) ∧ (∀ y ∈ l, y.In) ∧ l.length ≤ cap ∧ cap ≤ maxLen := by
  obtain ⟨a, len, c, rfl⟩ := okWide_slice Tryz.underlying34 hv
  obtain ⟨fuel, hf⟩ := h
  obtain ⟨A, cap, l, e, hr⟩ := open_dots hf
  refine ⟨A, cap, l, ?_, hr⟩
  have e' : [Value.slice a len c] = [.slice A l.length cap] := e
  injection e'
end
end Go.Proofs.YtmpkgbkdndpnlaaGreat
/- Arguments opened: ops. Plain lemmas. Conditions: none of our own. -/
namespace Go.Proofs.YtmpkgbkdndpnlaaGreat
open Go.RowKit Go.WideShapes Go.ChangeShapes Go.Deep
set_option linter.unusedVariables false

instance : Inhabited LOp := ⟨⟨⟨0, 0⟩, 0, ⟨#[]⟩, 0, []⟩⟩
theorem cellsOp : Tryz.prog.cellsOf 36 = 6 := by kernel_rfl
theorem cellsDots : Tryz.prog.cellsOf 34 = 1 := by kernel_rfl
section
variable {H : Type} {enc : TypeId × Value → H} {w : World} {base : Nat} {spare : Nat → Bool} {held : Bool}
/-- An op of memory: as it reads, and where its dots lie. -/
structure OpAt where
  op : LOp
  at_ : Option Addr
  cap : Nat
instance : Inhabited OpAt := ⟨⟨default, none, 0⟩⟩
def OpAt.cells (y : OpAt) : List Value := (y.op.cells y.at_ y.cap).toList
def OpAt.Good (w : World) (y : OpAt) : Prop :=
  Reads w w.heap.size 2 y.at_ y.op.seen.length (dcells y.op.seen) ∧ y.op.place.size ≤ maxLen ∧ I64 y.op.what ∧ I64 y.op.letter ∧ y.op.dot.In ∧ (∀ d ∈ y.op.seen, d.In) ∧ y.op.seen.length ≤ y.cap ∧ y.cap ≤ maxLen
set_option maxRecDepth 100000 in
theorem open_op {fuel : Nat} {cs : List Value} {x : DataW H × List MemPlace} (h : DataW.trod enc Tryz.prog w base spare held fuel 36 cs = some x) : ∃ y : OpAt, cs = y.cells ∧ y.Good w := by
  have hT := Tryz.underlying36
  have hl := trod_len hT h
  rw [cellsOp] at hl
  match cs, hl with
  | [c0, c1, c2, c3, c4, c5], _ =>
    obtain ⟨n0, y0, g0⟩ : ∃ n y, DataW.trod enc Tryz.prog w base spare held n 33 [c0, c1] = some y := trod_field hT h 0 _ rfl 2 cellsDot
    obtain ⟨n1, y1, g1⟩ : ∃ n y, DataW.trod enc Tryz.prog w base spare held n 3 [c2] = some y := trod_field hT h 1 _ rfl 1 cellsInt
    obtain ⟨n2, y2, g2⟩ : ∃ n y, DataW.trod enc Tryz.prog w base spare held n 9 [c3] = some y := trod_field hT h 2 _ rfl 1 cellsStr
    obtain ⟨n3, y3, g3⟩ : ∃ n y, DataW.trod enc Tryz.prog w base spare held n 3 [c4] = some y := trod_field hT h 3 _ rfl 1 cellsInt
    obtain ⟨n4, y4, g4⟩ : ∃ n y, DataW.trod enc Tryz.prog w base spare held n 34 [c5] = some y := trod_field hT h 4 _ rfl 1 cellsDots
    obtain ⟨d, e0, hd⟩ := open_dot g0
    obtain ⟨a1, e1, _, w1⟩ := DataW.trod_int Tryz.underlying3 g1
    obtain ⟨a2, e2, _, w2⟩ := DataW.trod_string Tryz.underlying9 g2
    obtain ⟨a3, e3, _, w3⟩ := DataW.trod_int Tryz.underlying3 g3
    obtain ⟨A, cap, l, e4, hr, hin, hc1, hc2⟩ := open_dots g4
    simp [LDot.cells] at e0 e1 e2 e3 e4
    obtain ⟨e0, e0'⟩ := e0
    subst e0 e0' e1 e2 e3 e4
    exact ⟨⟨⟨d, a1, a2, a3, l⟩, A, cap⟩, rfl, hr, w2, i64_of_wf w1, i64_of_wf w3, hd, hin, hc1, hc2⟩
set_option maxRecDepth 100000 in
theorem arg_op {r : Reach} {b0 : Nat} {v : Value} {d : DataW H} {p : List MemPlace} (hv : Value.okWide Tryz.prog w r b0 36 v) (h : DataW.Trod enc Tryz.prog w base spare held 36 v d p) :
    ∃ y : OpAt, v = y.op.val y.at_ y.cap ∧ y.Good w := by
  obtain ⟨cs, rfl, _⟩ := okWide_struct Tryz.underlying36 hv
  obtain ⟨fuel, hf⟩ := h
  obtain ⟨y, e, hg⟩ := open_op hf
  refine ⟨y, ?_, hg⟩
  have : cs = y.op.cells y.at_ y.cap := Array.ext' e
  rw [this]
  rfl
end
end Go.Proofs.YtmpkgbkdndpnlaaGreat

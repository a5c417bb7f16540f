/- 2 texts in one: each says ahead of itself what is proved, and its conditions. -/
import Derived.Test.YteiadcdaleckjaaDoorBook
import Derived.Test.YteiadcdaleckjaaDoorMark
import Derived.Test.YteiadcdaleckjaaDoorOpen
import Derived.Test.YteiadcdaleckjaaDoorRise
/- Arguments opened: dots. Plain lemmas. Conditions: none of our own. -/
namespace Go.Proofs.YteiadcdaleckjaaDoor
open Go.RowKit Go.WideShapes Go.ChangeShapes Go.Deep
set_option linter.unusedVariables false

instance : Inhabited LDot := ⟨⟨0, 0⟩⟩
def LDot.In (d : LDot) : Prop := I64 d.who ∧ I64 d.n
theorem cellsDot : Tryd.prog.cellsOf 69 = 2 := by kernel_rfl
theorem cellsInt : Tryd.prog.cellsOf 3 = 1 := by kernel_rfl
theorem cellsStr : Tryd.prog.cellsOf 9 = 1 := by kernel_rfl
section
variable {H : Type} {enc : TypeId × Value → H} {w : World} {base : Nat} {spare : Nat → Bool} {held : Bool}
set_option maxRecDepth 100000 in
theorem open_dot {fuel : Nat} {cs : List Value} {x : DataW H × List MemPlace} (h : DataW.trod enc Tryd.prog w base spare held fuel 69 cs = some x) : ∃ d : LDot, cs = d.cells ∧ d.In := by
  have hT := Tryd.underlying69
  have hl := trod_len hT h
  rw [cellsDot] at hl
  match cs, hl with
  | [c0, c1], _ =>
    obtain ⟨n0, y0, g0⟩ : ∃ n y, DataW.trod enc Tryd.prog w base spare held n 3 [c0] = some y := trod_field hT h 0 _ rfl 1 cellsInt
    obtain ⟨n1, y1, g1⟩ : ∃ n y, DataW.trod enc Tryd.prog w base spare held n 3 [c1] = some y := trod_field hT h 1 _ rfl 1 cellsInt
    obtain ⟨a0, e0, _, w0⟩ := DataW.trod_int Tryd.underlying3 g0
    obtain ⟨a1, e1, _, w1⟩ := DataW.trod_int Tryd.underlying3 g1
    simp at e0 e1
    subst e0 e1
    exact ⟨⟨a0, a1⟩, rfl, i64_of_wf w0, i64_of_wf w1⟩
theorem dcells_two (y : LDot) : y.cells.length = 2 := rfl
end
end Go.Proofs.YteiadcdaleckjaaDoor
/- Arguments opened: leafs and marks. Plain lemmas. Conditions: none of our own. -/
namespace Go.Proofs.YteiadcdaleckjaaDoor
open Go.RowKit Go.WideShapes Go.ChangeShapes Go.Deep
set_option linter.unusedVariables false

def LLeaf.In (x : LLeaf) : Prop := x.place.size ≤ maxLen ∧ I64 x.letter
def LMark.In (x : LMark) : Prop := x.place.size ≤ maxLen ∧ x.dot.In
theorem cellsLeaf : Tryd.prog.cellsOf 65 = 3 := by kernel_rfl
theorem cellsMark : Tryd.prog.cellsOf 71 = 3 := by kernel_rfl
theorem cellsBool : Tryd.prog.cellsOf 4 = 1 := by kernel_rfl
section
variable {H : Type} {enc : TypeId × Value → H} {w : World} {base : Nat} {spare : Nat → Bool} {held : Bool}
set_option maxRecDepth 100000 in
theorem open_leaf {fuel : Nat} {cs : List Value} {x : DataW H × List MemPlace} (h : DataW.trod enc Tryd.prog w base spare held fuel 65 cs = some x) : ∃ y : LLeaf, cs = y.cells ∧ y.In := by
  have hT := Tryd.underlying65
  have hl := trod_len hT h
  rw [cellsLeaf] at hl
  match cs, hl with
  | [c0, c1, c2], _ =>
    obtain ⟨n0, y0, g0⟩ : ∃ n y, DataW.trod enc Tryd.prog w base spare held n 9 [c0] = some y := trod_field hT h 0 _ rfl 1 cellsStr
    obtain ⟨n1, y1, g1⟩ : ∃ n y, DataW.trod enc Tryd.prog w base spare held n 3 [c1] = some y := trod_field hT h 1 _ rfl 1 cellsInt
    obtain ⟨n2, y2, g2⟩ : ∃ n y, DataW.trod enc Tryd.prog w base spare held n 4 [c2] = some y := trod_field hT h 2 _ rfl 1 cellsBool
    obtain ⟨a0, e0, _, w0⟩ := DataW.trod_string Tryd.underlying9 g0
    obtain ⟨a1, e1, _, w1⟩ := DataW.trod_int Tryd.underlying3 g1
    obtain ⟨a2, e2, _⟩ := DataW.trod_bool Tryd.underlying4 g2
    simp at e0 e1 e2
    subst e0 e1 e2
    exact ⟨⟨a0, a1, a2⟩, rfl, w0, i64_of_wf w1⟩
set_option maxRecDepth 100000 in
theorem open_mark {fuel : Nat} {cs : List Value} {x : DataW H × List MemPlace} (h : DataW.trod enc Tryd.prog w base spare held fuel 71 cs = some x) : ∃ y : LMark, cs = y.cells ∧ y.In := by
  have hT := Tryd.underlying71
  have hl := trod_len hT h
  rw [cellsMark] at hl
  match cs, hl with
  | [c0, c1, c2], _ =>
    obtain ⟨n0, y0, g0⟩ : ∃ n y, DataW.trod enc Tryd.prog w base spare held n 9 [c0] = some y := trod_field hT h 0 _ rfl 1 cellsStr
    obtain ⟨n1, y1, g1⟩ : ∃ n y, DataW.trod enc Tryd.prog w base spare held n 69 [c1, c2] = some y := trod_field hT h 1 _ rfl 2 cellsDot
    obtain ⟨a0, e0, _, w0⟩ := DataW.trod_string Tryd.underlying9 g0
    obtain ⟨d, e1, hd⟩ := open_dot g1
    simp at e0
    have e1' : [c1, c2] = [.int .i64 d.who, .int .i64 d.n] := e1
    simp at e1'
    obtain ⟨rfl, rfl⟩ := e1'
    subst e0
    exact ⟨⟨a0, d⟩, rfl, w0, hd⟩
set_option maxRecDepth 100000 in
theorem arg_leafs {r : Reach} {b0 : Nat} {v : Value} {d : DataW H} {p : List MemPlace} (hv : Value.okWide Tryd.prog w r b0 36 v) (h : DataW.Trod enc Tryd.prog w base spare held 36 v d p) :
    ∃ (A : Option Addr) (cap : Nat) (l : List LLeaf), v = .slice A l.length cap ∧ Reads w w.heap.size 3 A l.length (lcells l) ∧ (∀ y ∈ l, y.In) ∧ l.length ≤ cap ∧ cap ≤ maxLen := by
  obtain ⟨a, len, c, rfl⟩ := okWide_slice Tryd.underlying36 hv
  obtain ⟨fuel, hf⟩ := h
  obtain ⟨A, cap, l, e, hr⟩ := open_list LLeaf.cells LLeaf.In Tryd.underlying36 cellsLeaf (by decide) LLeaf.cells_len (fun _ _ _ h => open_leaf h) hf
  refine ⟨A, cap, l, ?_, hr⟩
  have e' : [Value.slice a len c] = [.slice A l.length cap] := e
  injection e'
set_option maxRecDepth 100000 in
theorem arg_marks {r : Reach} {b0 : Nat} {v : Value} {d : DataW H} {p : List MemPlace} (hv : Value.okWide Tryd.prog w r b0 37 v) (h : DataW.Trod enc Tryd.prog w base spare held 37 v d p) :
    ∃ (A : Option Addr) (cap : Nat) (l : List LMark), v = .slice A l.length cap ∧ Reads w w.heap.size 3 A l.length (mcells l) ∧ (∀ y ∈ l, y.In) ∧ l.length ≤ cap ∧ cap ≤ maxLen := by
  obtain ⟨a, len, c, rfl⟩ := okWide_slice Tryd.underlying37 hv
  obtain ⟨fuel, hf⟩ := h
  obtain ⟨A, cap, l, e, hr⟩ := open_list LMark.cells LMark.In Tryd.underlying37 cellsMark (by decide) LMark.cells_len (fun _ _ _ h => open_mark h) hf
  refine ⟨A, cap, l, ?_, hr⟩
  have e' : [Value.slice a len c] = [.slice A l.length cap] := e
  injection e'
set_option maxRecDepth 100000 in
theorem arg_mark {r : Reach} {b0 : Nat} {v : Value} {d : DataW H} {p : List MemPlace} (hv : Value.okWide Tryd.prog w r b0 71 v) (h : DataW.Trod enc Tryd.prog w base spare held 71 v d p) :
    ∃ y : LMark, v = .agg #[.string y.place, .int .i64 y.dot.who, .int .i64 y.dot.n] ∧ y.In := by
  obtain ⟨cs, rfl, _⟩ := okWide_struct Tryd.underlying71 hv
  obtain ⟨fuel, hf⟩ := h
  obtain ⟨y, e, hg⟩ := open_mark hf
  refine ⟨y, ?_, hg⟩
  have : cs = y.cells.toArray := Array.ext' e
  rw [this]
  rfl
end
end Go.Proofs.YteiadcdaleckjaaDoor

/- Arguments opened: leafs and marks. Plain lemmas. Conditions: none of our own. -/
import Derived.Test.YtpofdjikogoobaaDoorOpenDot
import Derived.Test.YtpofdjikogoobaaDoorBook
import Derived.Test.YtpofdjikogoobaaDoorMark
namespace Go.Proofs.YtpofdjikogoobaaDoor
open Go.RowKit Go.WideShapes Go.ChangeShapes Go.Deep
set_option linter.unusedVariables false

def LLeaf.In (x : LLeaf) : Prop := x.place.size ≤ maxLen ∧ I64 x.letter
def LMark.In (x : LMark) : Prop := x.place.size ≤ maxLen ∧ x.dot.In
theorem cellsLeaf : Tryd.prog.cellsOf 54 = 3 := by kernel_rfl
theorem cellsMark : Tryd.prog.cellsOf 118 = 3 := by kernel_rfl
theorem cellsBool : Tryd.prog.cellsOf 4 = 1 := by kernel_rfl
section
variable {H : Type} {enc : TypeId × Value → H} {w : World} {base : Nat} {spare : Nat → Bool} {held : Bool}
set_option maxRecDepth 100000 in
theorem open_leaf {fuel : Nat} {cs : List Value} {x : DataW H × List MemPlace} (h : DataW.trod enc Tryd.prog w base spare held fuel 54 cs = some x) : ∃ y : LLeaf, cs = y.cells ∧ y.In := by
  have hT := Tryd.underlying54
  have hl := trod_len hT h
  rw [cellsLeaf] at hl
  match cs, hl with
  | [c0, c1, c2], _ =>
    obtain ⟨n0, y0, g0⟩ : ∃ n y, DataW.trod enc Tryd.prog w base spare held n 9 [c0] = some y := trod_field hT h 0 _ rfl 1 cellsStr
    obtain ⟨n1, y1, g1⟩ : ∃ n y, DataW.trod enc Tryd.prog w base spare held n 3 [c1] = some y := trod_field hT h 1 _ rfl 1 cellsInt
    obtain ⟨n2, y2, g2⟩ : ∃ n y, DataW.trod enc Tryd.prog w base spare held n 4 [c2] = some y := trod_field hT h 2 _ rfl 1 cellsBool
    obtain ⟨a0, e0, _, w0⟩ := DataW.trod_string Tryd.underlying9 g0
    obtain ⟨a1, e1, _, w1⟩ := DataW.trod_int Tryd.underlying3 g1
    obtain ⟨a2, e2, _⟩ := DataW.trod_bool Tryd.underlying4 g2
    simp at e0 e1 e2
    subst e0 e1 e2
    exact ⟨⟨a0, a1, a2⟩, rfl, w0, i64_of_wf w1⟩
set_option maxRecDepth 100000 in
theorem open_mark {fuel : Nat} {cs : List Value} {x : DataW H × List MemPlace} (h : DataW.trod enc Tryd.prog w base spare held fuel 118 cs = some x) : ∃ y : LMark, cs = y.cells ∧ y.In := by
  have hT := Tryd.underlying118
  have hl := trod_len hT h
  rw [cellsMark] at hl
  match cs, hl with
  | [c0, c1, c2], _ =>
    obtain ⟨n0, y0, g0⟩ : ∃ n y, DataW.trod enc Tryd.prog w base spare held n 9 [c0] = some y := trod_field hT h 0 _ rfl 1 cellsStr
    obtain ⟨n1, y1, g1⟩ : ∃ n y, DataW.trod enc Tryd.prog w base spare held n 80 [c1, c2] = some y := trod_field hT h 1 _ rfl 2 cellsDot
    obtain ⟨a0, e0, _, w0⟩ := DataW.trod_string Tryd.underlying9 g0
    obtain ⟨d, e1, hd⟩ := open_dot g1
    simp at e0
    have e1' : [c1, c2] = [.int .i64 d.who, .int .i64 d.n] := e1
    simp at e1'
    obtain ⟨rfl, rfl⟩ := e1'
    subst e0
    exact ⟨⟨a0, d⟩, rfl, w0, hd⟩
set_option maxRecDepth 100000 in
theorem arg_leafs {r : Reach} {b0 : Nat} {v : Value} {d : DataW H} {p : List MemPlace} (hv : Value.okWide Tryd.prog w r b0 48 v) (h : DataW.Trod enc Tryd.prog w base spare held 48 v d p) :
    ∃ (A : Option Addr) (cap : Nat) (l : List LLeaf), v = .slice A l.length cap ∧ Reads w w.heap.size 3 A l.length (lcells l) ∧ (∀ y ∈ l, y.In) ∧ l.length ≤ cap ∧ cap ≤ maxLen := by
  obtain ⟨a, len, c, rfl⟩ := okWide_slice Tryd.underlying48 hv
  obtain ⟨fuel, hf⟩ := h
  obtain ⟨A, cap, l, e, hr⟩ := open_list LLeaf.cells LLeaf.In Tryd.underlying48 cellsLeaf (by decide) LLeaf.cells_len (fun _ _ _ h => open_leaf h) hf
  refine ⟨A, cap, l, ?_, hr⟩
  have e' : [Value.slice a len c] = [.slice A l.length cap] := e
  injection e'
set_option maxRecDepth 100000 in
theorem arg_marks {r : Reach} {b0 : Nat} {v : Value} {d : DataW H} {p : List MemPlace} (hv : Value.okWide Tryd.prog w r b0 102 v) (h : DataW.Trod enc Tryd.prog w base spare held 102 v d p) :
    ∃ (A : Option Addr) (cap : Nat) (l : List LMark), v = .slice A l.length cap ∧ Reads w w.heap.size 3 A l.length (mcells l) ∧ (∀ y ∈ l, y.In) ∧ l.length ≤ cap ∧ cap ≤ maxLen := by
  obtain ⟨a, len, c, rfl⟩ := okWide_slice Tryd.underlying102 hv
  obtain ⟨fuel, hf⟩ := h
  obtain ⟨A, cap, l, e, hr⟩ := open_list LMark.cells LMark.In Tryd.underlying102 cellsMark (by decide) LMark.cells_len (fun _ _ _ h => open_mark h) hf
  refine ⟨A, cap, l, ?_, hr⟩
  have e' : [Value.slice a len c] = [.slice A l.length cap] := e
  injection e'
set_option maxRecDepth 100000 in
theorem arg_mark {r : Reach} {b0 : Nat} {v : Value} {d : DataW H} {p : List MemPlace} (hv : Value.okWide Tryd.prog w r b0 118 v) (h : DataW.Trod enc Tryd.prog w base spare held 118 v d p) :
    ∃ y : LMark, v = .agg #[.string y.place, .int .i64 y.dot.who, .int .i64 y.dot.n] ∧ y.In := by
  obtain ⟨cs, rfl, _⟩ := okWide_struct Tryd.underlying118 hv
  obtain ⟨fuel, hf⟩ := h
  obtain ⟨y, e, hg⟩ := open_mark hf
  refine ⟨y, ?_, hg⟩
  have : cs = y.cells.toArray := Array.ext' e
  rw [this]
  rfl
end
end Go.Proofs.YtpofdjikogoobaaDoor

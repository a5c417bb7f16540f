/- Arguments opened: dots. Plain lemmas. Conditions: none of our own. -/
import Derived.Test.YtdalemoaodbgmaaOpen
import Derived.Test.YtdalemoaodbgmaaRise
namespace Go.Proofs.Ytdalemoaodbgmaa
open Go.RowKit Go.WideShapes Go.ChangeShapes Go.Deep
set_option linter.unusedVariables false

instance : Inhabited LDot := ⟨⟨0, 0⟩⟩
def LDot.In (d : LDot) : Prop := I64 d.who ∧ I64 d.n
theorem cellsDot : Try.prog.cellsOf 40 = 2 := by kernel_rfl
theorem cellsInt : Try.prog.cellsOf 3 = 1 := by kernel_rfl
theorem cellsStr : Try.prog.cellsOf 9 = 1 := by kernel_rfl
section
variable {H : Type} {enc : TypeId × Value → H} {w : World} {base : Nat} {spare : Nat → Bool} {held : Bool}
set_option maxRecDepth 100000 in
theorem open_dot {fuel : Nat} {cs : List Value} {x : DataW H × List MemPlace} (h : DataW.trod enc Try.prog w base spare held fuel 40 cs = some x) : ∃ d : LDot, cs = d.cells ∧ d.In := by
  have hT := Try.underlying40
  have hl := trod_len hT h
  rw [cellsDot] at hl
  match cs, hl with
  | [c0, c1], _ =>
    obtain ⟨n0, y0, g0⟩ : ∃ n y, DataW.trod enc Try.prog w base spare held n 3 [c0] = some y := trod_field hT h 0 _ rfl 1 cellsInt
    obtain ⟨n1, y1, g1⟩ : ∃ n y, DataW.trod enc Try.prog w base spare held n 3 [c1] = some y := trod_field hT h 1 _ rfl 1 cellsInt
    obtain ⟨a0, e0, _, w0⟩ := DataW.trod_int Try.underlying3 g0
    obtain ⟨a1, e1, _, w1⟩ := DataW.trod_int Try.underlying3 g1
    simp at e0 e1
    subst e0 e1
    exact ⟨⟨a0, a1⟩, rfl, i64_of_wf w0, i64_of_wf w1⟩
theorem dcells_two (y : LDot) : y.cells.length = 2 := rfl
theorem open_dots {fuel : Nat} {cs : List Value} {x : DataW H × List MemPlace} (h : DataW.trod enc Try.prog w base spare held fuel 41 cs = some x) :
    ∃ (A : Option Addr) (cap : Nat) (l : List LDot), cs = [.slice A l.length cap] ∧ Reads w w.heap.size 2 A l.length (dcells l) ∧ (∀ y ∈ l, y.In) ∧ l.length ≤ cap ∧ cap ≤ maxLen :=
  open_list LDot.cells LDot.In Try.underlying41 cellsDot (by decide) dcells_two (fun _ _ _ h => open_dot h) h
set_option maxRecDepth 100000 in
theorem arg_dots {r : Reach} {b0 : Nat} {v : Value} {d : DataW H} {p : List MemPlace} (hv : Value.okWide Try.prog w r b0 41 v) (h : DataW.Trod enc Try.prog w base spare held 41 v d p) :
    ∃ (A : Option Addr) (cap : Nat) (l : List LDot), v = .slice A l.length cap ∧ Reads w w.heap.size 2 A l.length (dcells l) ∧ (∀ y ∈ l, y.In) ∧ l.length ≤ cap ∧ cap ≤ maxLen := by
  obtain ⟨a, len, c, rfl⟩ := okWide_slice Try.underlying41 hv
  obtain ⟨fuel, hf⟩ := h
  obtain ⟨A, cap, l, e, hr⟩ := open_dots hf
  refine ⟨A, cap, l, ?_, hr⟩
  have e' : [Value.slice a len c] = [.slice A l.length cap] := e
  injection e'
end
end Go.Proofs.Ytdalemoaodbgmaa

/- Arguments opened: frames, texts, numbers. Plain lemmas. Conditions: none of our own. -/
import Derived.Test.YtpofdjikogoobaaOpenStrs
import Derived.Test.YtpofdjikogoobaaLinkSpec
namespace Go.Proofs.Ytpofdjikogoobaa
open Go.RowKit Go.WideShapes Go.ChangeShapes Go.Deep
set_option linter.unusedVariables false

instance : Inhabited LFrame := ⟨⟨false, 0, ⟨#[]⟩⟩⟩
def LFrame.In (x : LFrame) : Prop := x.data.size ≤ maxLen ∧ I64 x.seq
theorem cellsFrame : Try.prog.cellsOf 33 = 3 := by kernel_rfl
theorem cellsFBool : Try.prog.cellsOf 4 = 1 := by kernel_rfl
section
variable {H : Type} {enc : TypeId × Value → H} {w : World} {base : Nat} {spare : Nat → Bool} {held : Bool}
set_option maxRecDepth 100000 in
theorem open_frame {fuel : Nat} {cs : List Value} {x : DataW H × List MemPlace} (h : DataW.trod enc Try.prog w base spare held fuel 33 cs = some x) : ∃ y : LFrame, cs = y.cells ∧ y.In := by
  have hT := Try.underlying33
  have hl := trod_len hT h
  rw [cellsFrame] at hl
  match cs, hl with
  | [c0, c1, c2], _ =>
    obtain ⟨n0, y0, g0⟩ : ∃ n y, DataW.trod enc Try.prog w base spare held n 4 [c0] = some y := trod_field hT h 0 _ rfl 1 cellsFBool
    obtain ⟨n1, y1, g1⟩ : ∃ n y, DataW.trod enc Try.prog w base spare held n 3 [c1] = some y := trod_field hT h 1 _ rfl 1 cellsFInt
    obtain ⟨n2, y2, g2⟩ : ∃ n y, DataW.trod enc Try.prog w base spare held n 9 [c2] = some y := trod_field hT h 2 _ rfl 1 cellsFStr
    obtain ⟨a0, e0, _⟩ := DataW.trod_bool Try.underlying4 g0
    obtain ⟨a1, e1, _, w1⟩ := DataW.trod_int Try.underlying3 g1
    obtain ⟨a2, e2, _, w2⟩ := DataW.trod_string Try.underlying9 g2
    simp at e0 e1 e2
    subst e0 e1 e2
    exact ⟨⟨a0, a1, a2⟩, rfl, w2, i64_of_wf w1⟩
set_option maxRecDepth 100000 in
theorem arg_frames {r : Reach} {b0 : Nat} {v : Value} {d : DataW H} {p : List MemPlace} (hv : Value.okWide Try.prog w r b0 30 v) (h : DataW.Trod enc Try.prog w base spare held 30 v d p) :
    ∃ (A : Option Addr) (cap : Nat) (l : List LFrame), v = .slice A l.length cap ∧ Reads w w.heap.size 3 A l.length (fcells l) ∧ (∀ y ∈ l, y.In) ∧ l.length ≤ cap ∧ cap ≤ maxLen := by
  obtain ⟨a, len, c, rfl⟩ := okWide_slice Try.underlying30 hv
  obtain ⟨fuel, hf⟩ := h
  obtain ⟨A, cap, l, e, hr⟩ := open_list LFrame.cells LFrame.In Try.underlying30 cellsFrame (by decide) (fun _ => rfl) (fun _ _ _ h => open_frame h) hf
  refine ⟨A, cap, l, ?_, hr⟩
  have e' : [Value.slice a len c] = [.slice A l.length cap] := e
  injection e'
end
end Go.Proofs.Ytpofdjikogoobaa

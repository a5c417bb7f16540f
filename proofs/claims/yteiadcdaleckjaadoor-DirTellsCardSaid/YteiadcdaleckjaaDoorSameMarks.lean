/- leafsame.Marks, walked. Conditions: few elements. -/
import Derived.Test.YteiadcdaleckjaaDoorMark
import Derived.Test.YteiadcdaleckjaaDoorSame0
namespace Go.Proofs.YteiadcdaleckjaaDoor
open Go.RowKit
set_option linter.unusedVariables false
namespace SameMarks
instance dec : DecidableEq LMark := fun a b => by
  obtain ⟨a0, a1, a2⟩ := a
  obtain ⟨b0, b1, b2⟩ := b
  simp only [LMark.mk.injEq, LDot.mk.injEq]
  exact inferInstance
set_option maxRecDepth 100000 in
theorem eq_one (W : World) (x0 y0 : ByteArray) (x1 y1 : Int) (x2 y2 : Int) : (Op.equalIn 10000 71 (.agg #[.string x0, .int .i64 x1, .int .i64 x2]) (.agg #[.string y0, .int .i64 y1, .int .i64 y2])).run Tryd.prog W = .ok (x0.toList == y0.toList && (x1 == y1 && (x2 == y2))) W := by
  have ui := Tryd.underlying3
  have us := Tryd.underlying9
  have hDD : ∀ (a b c d : Int) (W : World), (Op.equalIn 9999 69 (.agg #[.int .i64 a, .int .i64 b]) (.agg #[.int .i64 c, .int .i64 d])).run Tryd.prog W = .ok (a == c && b == d) W := fun a b c d W => by
    have hD : Tryd.prog.underlying 69 = some (.struct (Tryd.prog.fieldsOf 69)) := by kernel_rfl
    have hpD : Tryd.prog.stoodInHeld 69 = false := by kernel_rfl
    rw [show (9999 : Nat) = 9998 + 1 from rfl, run_equalIn_agg W 9998 69 _ _ hD hpD]
    simp only [Program.fieldsOf, Tryd.underlying69]
    clear hD hpD
    go_simp
    by_cases h1 : a = c <;> by_cases h2 : b = d <;> simp [h1, h2]
  have haD := Tryd.isAgg69
  have hS : Tryd.prog.underlying 71 = some (.struct (Tryd.prog.fieldsOf 71)) := by kernel_rfl
  have hp : Tryd.prog.stoodInHeld 71 = false := by kernel_rfl
  rw [show (10000 : Nat) = 9999 + 1 from rfl, run_equalIn_agg W 9999 71 _ _ hS hp]
  simp only [Program.fieldsOf, Tryd.underlying71]
  go_simp
  by_cases h0 : x0.toList = y0.toList <;> by_cases h1 : x1 = y1 <;> by_cases h2 : x2 = y2 <;> simp [h0, h1, h2]
theorem same_one {x0 y0 : ByteArray} {x1 y1 : Int} {x2 y2 : Int} : (x0.toList == y0.toList && (x1 == y1 && (x2 == y2))) = decide ((⟨x0, ⟨x1, x2⟩⟩ : LMark) = ⟨y0, ⟨y1, y2⟩⟩) := by
  rw [Bool.eq_iff_iff]
  simp only [Bool.and_eq_true, beq_iff_eq, decide_eq_true_eq, LMark.mk.injEq, LDot.mk.injEq, same_toList]
def Loop (w : World) (l m : List LMark) (i : Value) (wr : World) : Prop :=
  ∃ k : Nat, k ≤ l.length ∧ i = .int .i64 k ∧ Hid (Below w.heap.size w wr) ∧ Hid (decide (l = m) = decide (l.drop k = m.drop k))
end SameMarks
end Go.Proofs.YteiadcdaleckjaaDoor

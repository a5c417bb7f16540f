/- slices.Insert of one leaf into a row of the call's own, walked: what stood ahead, the leaf, what stood behind. Conditions: the row is short; the leaf lies in a block of its own. -/
import Derived.Test.YteiadcdaleckjaaDoorBook
import Derived.Test.YteiadcdaleckjaaDoorIns
namespace Go.Proofs.YteiadcdaleckjaaDoor
open Go.RowKit
set_option linter.unusedVariables false
namespace InsLeaf
theorem elem : Elem Tryd.prog 36 65 3 32 := Elem.mk_ (z := .agg #[.string ⟨#[]⟩, .int .i64 0, .bool false]) Tryd.underlying36 (by kernel_rfl) rfl (by decide)
def Post (w : World) (B : Nat) (A : Option Addr) (n i : Nat) (xs x : List Value) (e : Ending) (w' : World) : Prop :=
  ∃ A' c', e = .returned (.slice A' (n + 1) c') ∧ Own w' B 65 3 A' (n + 1) c' (xs.take (i * 3) ++ x ++ xs.drop (i * 3)) ∧ Only (ob A) w w' ∧ ∀ g ∈ ob A', g ∈ ob A ∨ w.heap.size ≤ g
theorem splice_at {α : Type} (a r x : List α) : splice (a ++ r) a.length x = a ++ (x ++ r.drop x.length) := by
  unfold splice
  rw [List.take_left, ← List.drop_drop, List.drop_left]
section
variable (w : World) (B c n vb : Nat) (xs x : List Value)
theorem reads_x {w : World} {vb : Nat} {x : List Value} (hV : Blk w vb 65 x.toArray) (hx : x.length = 3) : Reads w (vb + 1) 3 (some ⟨vb, 0, none⟩) 1 x := by
  refine ⟨by omega, fun _ => ⟨_, rfl, by simp, fun j u hu => ?_⟩⟩
  have h := hV.cell j
  have e1 : (⟨vb, 0, none⟩ : Addr).add j = ⟨vb, j, none⟩ := by
    unfold Addr.add
    by_cases hj : j = 0 <;> simp [hj]
  rw [e1, h]
  simpa using hu
end
end InsLeaf
end Go.Proofs.YteiadcdaleckjaaDoor

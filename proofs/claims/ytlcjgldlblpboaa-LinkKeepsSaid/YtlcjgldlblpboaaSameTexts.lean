/- leafsame.Frames, walked. Conditions: few elements. -/
import Derived.Test.YtlcjgldlblpboaaLinkSpec
import Derived.Test.YtlcjgldlblpboaaSame
namespace Go.Proofs.Ytlcjgldlblpboaa
open Go.RowKit
set_option linter.unusedVariables false

instance : DecidableEq LFrame := fun a b => by
  cases a; cases b
  simp only [LFrame.mk.injEq]
  exact inferInstance
theorem fcells_at (l : List LFrame) (k r : Nat) (hk : k < l.length) (hr : r < 3) : (fcells l)[k * 3 + r]? = l[k].cells[r]? := by
  induction l generalizing k with
  | nil => simp at hk
  | cons f l ih =>
    cases k with
    | zero =>
      show (f.cells ++ fcells l)[0 * 3 + r]? = f.cells[r]?
      rw [List.getElem?_append_left (by simp [LFrame.cells]; omega)]; simp
    | succ k =>
      show (f.cells ++ fcells l)[(k + 1) * 3 + r]? = (l[k]'(by simpa using hk)).cells[r]?
      rw [List.getElem?_append_right (by simp [LFrame.cells]; omega), show (k + 1) * 3 + r - f.cells.length = k * 3 + r by simp [LFrame.cells]; omega]
      exact ih k (by simpa using hk)
theorem Reads.frame {w : World} {B : Nat} {A : Option Addr} {l : List LFrame} (h : Reads w B 3 A l.length (fcells l)) {k : Nat} (hk : k < l.length) :
    ∃ ad, A = some ad ∧ ad.block < B ∧ w.cell? (ad.add (k * 3)) = some (.bool l[k].ack) ∧ w.cell? ⟨(ad.add (k * 3)).block, (ad.add (k * 3)).off + 1, none⟩ = some (.int .i64 l[k].seq) ∧
      w.cell? ⟨(ad.add (k * 3)).block, (ad.add (k * 3)).off + 2, none⟩ = some (.string l[k].data) := by
  obtain ⟨ad, e, hb, hc⟩ := h.2 (by omega)
  refine ⟨ad, e, hb, ?_, ?_, ?_⟩
  · exact hc _ _ (by rw [show k * 3 = k * 3 + 0 from rfl, fcells_at l k 0 hk (by omega)]; rfl)
  · rw [show (⟨(ad.add (k * 3)).block, (ad.add (k * 3)).off + 1, none⟩ : Addr) = (ad.add (k * 3)).add 1 from rfl, add_of_add]
    exact hc _ _ (by rw [fcells_at l k 1 hk (by omega)]; rfl)
  · rw [show (⟨(ad.add (k * 3)).block, (ad.add (k * 3)).off + 2, none⟩ : Addr) = (ad.add (k * 3)).add 2 from rfl, add_of_add]
    exact hc _ _ (by rw [fcells_at l k 2 hk (by omega)]; rfl)
set_option maxRecDepth 100000 in
theorem eq_frame (W : World) (a a' : Bool) (s s' : Int) (d d' : ByteArray) : (Op.equalIn 10000 33 (.agg #[.bool a, .int .i64 s, .string d]) (.agg #[.bool a', .int .i64 s', .string d'])).run Try.prog W = .ok (a == a' && (s == s' && d.toList == d'.toList)) W := by
  have u0 := Try.underlying4
  have u1 := Try.underlying3
  have u2 := Try.underlying9
  have hS : Try.prog.underlying 33 = some (.struct (Try.prog.fieldsOf 33)) := by kernel_rfl
  have hp : Try.prog.stoodInHeld 33 = false := by kernel_rfl
  rw [show (10000 : Nat) = 9999 + 1 from rfl, run_equalIn_agg W 9999 33 _ _ hS hp]
  simp only [Program.fieldsOf, Try.underlying33]
  go_simp
  by_cases h1 : a = a' <;> by_cases h2 : s = s' <;> by_cases h3 : d.toList = d'.toList <;> simp [h1, h2, h3]
theorem frame_same {a a' : Bool} {s s' : Int} {d d' : ByteArray} : (a == a' && (s == s' && d.toList == d'.toList)) = decide ((⟨a, s, d⟩ : LFrame) = ⟨a', s', d'⟩) := by
  rw [Bool.eq_iff_iff]
  simp only [Bool.and_eq_true, beq_iff_eq, decide_eq_true_eq, LFrame.mk.injEq, same_toList]
def FrLoop (w : World) (l m : List LFrame) (i : Value) (wr : World) : Prop :=
  ∃ k : Nat, k ≤ l.length ∧ i = .int .i64 k ∧ Hid (Below w.heap.size w wr) ∧ Hid (decide (l = m) = decide (l.drop k = m.drop k))
end Go.Proofs.Ytlcjgldlblpboaa

/- dot.Rise, walked. Conditions: stated with each. -/
import Derived.Test.YteiadcdaleckjaaDoorDot
namespace Go.Proofs.YteiadcdaleckjaaDoor
open Go.RowKit
set_option linter.unusedVariables false

def dcells (l : List LDot) : List Value := l.flatMap LDot.cells
theorem dcells_len (l : List LDot) : (dcells l).length = l.length * 2 := by
  induction l with
  | nil => rfl
  | cons d l ih => simp only [dcells, List.flatMap_cons, List.length_append, List.length_cons] at ih ⊢; rw [ih]; simp [LDot.cells]; omega
theorem dcells_at (l : List LDot) (k : Nat) (hk : k < l.length) : (dcells l)[k * 2]? = some (.int .i64 l[k].who) ∧ (dcells l)[k * 2 + 1]? = some (.int .i64 l[k].n) := by
  induction l generalizing k with
  | nil => simp at hk
  | cons d l ih =>
    cases k with
    | zero => simp [dcells, LDot.cells]
    | succ k =>
      have := ih k (by simpa using hk)
      have e : dcells (d :: l) = [.int .i64 d.who, .int .i64 d.n] ++ dcells l := rfl
      rw [e, List.getElem?_append_right (by simp; omega), List.getElem?_append_right (by simp; omega)]
      simp only [List.length_cons, List.length_nil, List.getElem_cons_succ]
      rw [show (k + 1) * 2 - (0 + 1 + 1) = k * 2 by omega, show (k + 1) * 2 + 1 - (0 + 1 + 1) = k * 2 + 1 by omega]
      exact this

/-- A dot of the row, read. -/
theorem Reads.dot {w : World} {B : Nat} {A : Option Addr} {l : List LDot} (h : Reads w B 2 A l.length (dcells l)) {k : Nat} (hk : k < l.length) :
    ∃ ad, A = some ad ∧ ad.block < B ∧ w.cell? (ad.add (k * 2)) = some (.int .i64 l[k].who) ∧ w.cell? ⟨(ad.add (k * 2)).block, (ad.add (k * 2)).off + 1, none⟩ = some (.int .i64 l[k].n) := by
  obtain ⟨ad, e, hb, hc⟩ := h.2 (by omega)
  exact ⟨ad, e, hb, hc _ _ (dcells_at l k hk).1, (by rw [show (⟨(ad.add (k * 2)).block, (ad.add (k * 2)).off + 1, none⟩ : Addr) = (ad.add (k * 2)).add 1 from rfl, add_of_add]; exact hc _ _ (dcells_at l k hk).2 : w.cell? ⟨(ad.add (k * 2)).block, (ad.add (k * 2)).off + 1, none⟩ = some (.int .i64 l[k].n))⟩

/-- Do they rise from place k on? -/
def riseErr (l : List LDot) : Int :=
  if l.all (fun d => dotErr d == 0) then (if (List.range (l.length - 1)).all (fun k => decide (ordD (l.getD k ⟨0, 0⟩) (l.getD (k + 1) ⟨0, 0⟩) < 0)) then 0 else 7) else 1

def RiseLoop (w : World) (l : List LDot) (i : Value) (wr : World) : Prop :=
  ∃ k : Nat, k ≤ l.length ∧ i = .int .i64 k ∧ Below w.heap.size w wr ∧ Hid (∀ j (h : j < l.length), j < k → dotErr l[j] = 0)

theorem rise_ok1 {l : List LDot} (h : ∀ j (hj : j < l.length), dotErr l[j] = 0) : (l.all (fun d => dotErr d == 0)) = true := by
  rw [List.all_eq_true]
  intro d hd
  obtain ⟨j, hj, rfl⟩ := List.getElem_of_mem hd
  simpa using h j hj
theorem rise_bad1 {l : List LDot} {k : Nat} (hk : k < l.length) (h : dotErr l[k] ≠ 0) : riseErr l = 1 := by
  unfold riseErr
  rw [if_neg]
  rw [List.all_eq_true]
  intro hh
  have := hh l[k] (List.getElem_mem hk)
  exact h (by simpa using this)

theorem dotErr_one {d : LDot} (h : dotErr d ≠ 0) : dotErr d = 1 := by unfold dotErr at h ⊢; split <;> simp_all
theorem getD_of {l : List LDot} {k : Nat} (hk : k < l.length) : l.getD k ⟨0, 0⟩ = l[k] := by simp [List.getD, List.getElem?_eq_getElem hk]
def RiseLoop2 (w : World) (l : List LDot) (i : Value) (wr : World) : Prop :=
  ∃ k : Nat, (k = 0 ∨ k + 1 ≤ l.length) ∧ i = .int .i64 ((k : Int) + 1) ∧ Below w.heap.size w wr ∧ Hid (∀ j, j < k → ordD (l.getD j ⟨0, 0⟩) (l.getD (j + 1) ⟨0, 0⟩) < 0)
theorem rise_bad2 {l : List LDot} {k : Nat} (h0 : (l.all (fun d => dotErr d == 0)) = true) (hk : k + 1 < l.length) (h : 0 ≤ ordD l[k] l[k + 1]) : riseErr l = 7 := by
  unfold riseErr
  rw [if_pos h0, if_neg]
  rw [List.all_eq_true]
  intro hh
  have := hh k (by simp; omega)
  rw [decide_eq_true_iff, getD_of (show k < l.length by omega), getD_of hk] at this
  omega
theorem rise_ok2 {l : List LDot} {k : Nat} (h0 : (l.all (fun d => dotErr d == 0)) = true) (hk : l.length ≤ k + 1) (h : ∀ j, j < k → ordD (l.getD j ⟨0, 0⟩) (l.getD (j + 1) ⟨0, 0⟩) < 0) : riseErr l = 0 := by
  unfold riseErr
  rw [if_pos h0, if_pos]
  rw [List.all_eq_true]
  intro j hj
  have : j < k := by simp at hj; omega
  simpa using h j this

end Go.Proofs.YteiadcdaleckjaaDoor

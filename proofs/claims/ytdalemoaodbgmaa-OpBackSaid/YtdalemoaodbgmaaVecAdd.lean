/- dot.Has, dot.Add, walked. Conditions: stated with each. -/
import Derived.Test.YtdalemoaodbgmaaVec
namespace Go.Proofs.Ytdalemoaodbgmaa
open Go.RowKit
set_option linter.unusedVariables false

theorem elemI : Elem Try.prog 23 3 1 8 := Elem.mk_ (z := .int .i64 0) Try.underlying23 (by kernel_rfl) rfl (by decide)
theorem vd_ok {l : List Int} {d : LDot} (h : vdErr l d = 0) : vecErr l = 0 ∧ dotErr d = 0 := by
  unfold vdErr at h
  by_cases h1 : vecErr l ≠ 0
  · rw [if_pos h1] at h; exact absurd h h1
  · rw [if_neg h1] at h; exact ⟨by omega, h⟩
theorem dot_in {d : LDot} (h : dotErr d = 0) : ∃ k : Nat, k < 8 ∧ d.who = (k : Int) + 1 ∧ 1 ≤ d.n ∧ d.n ≤ 9999 := by
  unfold dotErr at h
  split at h
  · rename_i hh; exact ⟨(d.who - 1).toNat, by omega, by omega, hh.2.2⟩
  · omega
/-- The number that a vector has of a dot's author. -/
def nOf (l : List Int) (d : LDot) : Int := l.getD (d.who - 1).toNat 0
theorem nOf_at {l : List Int} {k : Nat} {n : Int} (h : k < l.length) : nOf l ⟨(k : Int) + 1, n⟩ = l[k] := by
  unfold nOf
  simp only
  rw [show ((k : Int) + 1 - 1).toNat = k by omega]
  simp [List.getD, List.getElem?_eq_getElem h]
def hasRes (l : List Int) (d : LDot) : Bool := decide (vdErr l d = 0) && decide (d.n ≤ nOf l d)
def HasPost (w : World) (l : List Int) (d : LDot) (e : Ending) (w' : World) : Prop := e = .returned (.tuple #[.bool (hasRes l d), errV (vdErr l d)]) ∧ Below w.heap.size w w'
def addErr (l : List Int) (d : LDot) : Int := if vdErr l d ≠ 0 then vdErr l d else if d.n ≤ nOf l d then 7 else if nOf l d < d.n - 1 then 6 else 0
def addRes (l : List Int) (d : LDot) : List Int := l.set (d.who - 1).toNat d.n
def AddPost (w : World) (l : List Int) (d : LDot) (e : Ending) (w' : World) : Prop :=
  if addErr l d = 0 then ∃ V c, e = .returned (.tuple #[.slice V l.length c, .nilIface]) ∧ Own w' w.heap.size 3 1 V l.length c (ints (addRes l d)) ∧ Below w.heap.size w w'
  else e = .returned (.tuple #[.slice none 0 0, errV (addErr l d)]) ∧ Below w.heap.size w w'
theorem Own.store {w : World} {B : Nat} {e : TypeId} {g n c : Nat} {xs : List Value} (h : Own w B e 1 (some ⟨g, 0, none⟩) n c xs) {k : Nat} (hk : k < n) (u : Value) : Own (w.setCell ⟨g, k, none⟩ u) B e 1 (some ⟨g, 0, none⟩) n c (xs.set k u) := by
  obtain ⟨h1, h2⟩ := h
  refine ⟨by rw [List.length_set]; exact h1, ?_⟩
  rcases h2 with ⟨h2, _⟩ | ⟨g', cap, cur, e1, e2, e3, e4, e5, e6, e7⟩
  · cases h2
  · injection e1 with e1 _ ec
    injection e1 with e1
    injection e1 with e1
    subst e1 ec
    refine .inr ⟨g, c, cur.setIfInBounds k u, rfl, e2, Blk.set_ (t := e) e3 k u, e4, e5, by simpa using e6, ?_⟩
    rw [Array.toList_setIfInBounds, ← e7, List.take_set]
theorem ints_set (l : List Int) (k : Nat) (n : Int) : (ints l).set k (.int .i64 n) = ints (l.set k n) := by simp [ints, List.map_set]

end Go.Proofs.Ytdalemoaodbgmaa

/- dot.Vector, dot.ready, dot.Has, dot.Add, walked. Conditions: stated with each. -/
import Derived.Deep.RegionHeld3
import Derived.Test.YtdalemoaodbgmaaDotCheck
namespace Go.Proofs.Ytdalemoaodbgmaa
open Go.RowKit
set_option linter.unusedVariables false

def ints (l : List Int) : List Value := l.map fun n => .int .i64 n
theorem ints_len (l : List Int) : (ints l).length = l.length := by simp [ints]
theorem ints_at {l : List Int} {k : Nat} (h : k < l.length) : (ints l)[k]? = some (.int .i64 l[k]) := by simp [ints, h]
theorem oneCells_ints (l : List Int) : OneCells (ints l) := by
  intro u hu
  simp only [ints, List.mem_map] at hu
  obtain ⟨n, _, rfl⟩ := hu
  rfl
theorem Reads.int {w : World} {B : Nat} {A : Option Addr} {l : List Int} (h : Reads w B 1 A l.length (ints l)) {k : Nat} (hk : k < l.length) : ∃ ad, A = some ad ∧ ad.block < B ∧ w.cell? (ad.add k) = some (.int .i64 l[k]) := by
  obtain ⟨ad, e, hb, hc⟩ := h.2 (by omega)
  exact ⟨ad, e, hb, hc _ _ (ints_at hk)⟩
def badN (n : Int) : Bool := decide (n < 0) || decide (9999 < n)
def vecErr (l : List Int) : Int := if l.length ≠ 8 then 3 else if l.any badN then 1 else 0
theorem vec_ok {l : List Int} (h : vecErr l = 0) : l.length = 8 ∧ ∀ n ∈ l, 0 ≤ n ∧ n ≤ 9999 := by
  unfold vecErr at h
  by_cases h1 : l.length ≠ 8
  · rw [if_pos h1] at h; omega
  · rw [if_neg h1] at h
    by_cases h2 : l.any badN = true
    · rw [if_pos h2] at h; omega
    · refine ⟨by omega, fun n hn => ?_⟩
      have h3 : badN n = false := by
        cases hb : badN n
        · rfl
        · exact absurd (List.any_eq_true.2 ⟨n, hn, hb⟩) h2
      simp [badN] at h3
      omega

def FoundPost (w : World) (l : List Int) (e : Ending) (w' : World) : Prop := ∃ k : Int, e = .returned (.int .i64 k) ∧ (decide (0 ≤ k) = l.any badN) ∧ -1 ≤ k ∧ k ≤ l.length ∧ w' = w
/-- What is wrong with a vector and a dot. -/
def vdErr (l : List Int) (d : LDot) : Int := if vecErr l ≠ 0 then vecErr l else dotErr d
end Go.Proofs.Ytdalemoaodbgmaa

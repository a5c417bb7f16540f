/- dot.Check, walked. Conditions: stated with each. -/
import Derived.Test.YtngalkmmpjegkaaPlaceCheck
namespace Go.Proofs.Ytngalkmmpjegkaa
open Go.RowKit
set_option linter.unusedVariables false

structure LDot where
  who : Int
  n : Int
  deriving DecidableEq
def LDot.val (d : LDot) : Value := .agg #[.int .i64 d.who, .int .i64 d.n]
def LDot.cells (d : LDot) : List Value := [.int .i64 d.who, .int .i64 d.n]
def dotErr (d : LDot) : Int := if 1 ≤ d.who ∧ d.who ≤ 8 ∧ 1 ≤ d.n ∧ d.n ≤ 9999 then 0 else 1
set_option maxRecDepth 100000 in
theorem dotCheck_any (w : World) (who n : Int) :
    Calls Try.prog 40 #[.agg #[.int .i64 who, .int .i64 n]] w (CheckPost w (errV (dotErr ⟨who, n⟩))) := by
  have HA := Lib.hid (fun w => author_any w who)
  have bad : ¬ (1 ≤ who ∧ who ≤ 8 ∧ 1 ≤ n ∧ n ≤ 9999) → dotErr ⟨who, n⟩ = 1 := fun h => if_neg h
  have good : (1 ≤ who ∧ who ≤ 8 ∧ 1 ≤ n ∧ n ≤ 9999) → dotErr ⟨who, n⟩ = 0 := fun h => if_pos h
  have BAD := Lib.hid bad
  have GOOD := Lib.hid good
  have HB : Hid (Below w.heap.size w (w.alloc (.cells #[.int .i64 who, .int .i64 n] 35))) := (Below.refl _ _).alloc (Nat.le_refl _) _
  clear bad good
  by_cases hw : 1 ≤ who ∧ who ≤ 8
  · have hau : (decide (1 ≤ who) && decide (who ≤ 8)) = true := by simp; omega
    have HAU := Lib.hid hau
    clear hau
    by_cases h1 : n < 1
    · go_enter Try.func40, Try.ntmps40
      go_wp2_with fail
      refine (HA.out _).mono ?_
      rintro e w1 ⟨rfl, rfl⟩
      rw [HAU.out]
      go_wp2_with fail
      go_ret
      exact ⟨by rw [BAD.out (by omega)]; rfl, HB.out⟩
    · by_cases h2 : 9999 < n
      · go_enter Try.func40, Try.ntmps40
        go_wp2_with fail
        refine (HA.out _).mono ?_
        rintro e w1 ⟨rfl, rfl⟩
        rw [HAU.out]
        go_wp2_with fail
        go_ret
        exact ⟨by rw [BAD.out (by omega)]; rfl, HB.out⟩
      · go_enter Try.func40, Try.ntmps40
        go_wp2_with fail
        refine (HA.out _).mono ?_
        rintro e w1 ⟨rfl, rfl⟩
        rw [HAU.out]
        go_wp2_with fail
        go_ret
        exact ⟨by rw [GOOD.out (by omega)]; rfl, HB.out⟩
  · have hau : (decide (1 ≤ who) && decide (who ≤ 8)) = false := by simp; omega
    have HAU := Lib.hid hau
    have HW := Lib.hid hw
    clear hau hw
    go_enter Try.func40, Try.ntmps40
    go_wp2_with fail
    refine (HA.out _).mono ?_
    rintro e w1 ⟨rfl, rfl⟩
    rw [HAU.out]
    go_wp2_with fail
    go_ret
    exact ⟨by rw [BAD.out (fun h => HW.out ⟨h.1, h.2.1⟩)]; rfl, HB.out⟩
end Go.Proofs.Ytngalkmmpjegkaa

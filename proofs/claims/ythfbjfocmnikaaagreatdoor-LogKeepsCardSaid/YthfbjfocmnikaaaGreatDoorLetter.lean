/- book.Letter, walked. Conditions: stated with each. -/
import Derived.Test.YthfbjfocmnikaaaGreatDoorPlaceCheck
namespace Go.Proofs.YthfbjfocmnikaaaGreatDoor
open Go.RowKit
set_option linter.unusedVariables false

def letterB (n : Int) : Bool := decide (32 ≤ n) && decide (n ≤ 126)
theorem letter_any (w : World) (n : Int) :
    Calls Tryz.prog 137 #[.int .i64 n] w fun e w' => e = .returned (.bool (letterB n)) ∧ w' = w := by
  by_cases h : 32 ≤ n
  · go_enter Tryz.func137, Tryz.ntmps137
    go_wp2
    go_ret
    exact ⟨by simp [h, letterB], rfl⟩
  · go_enter Tryz.func137, Tryz.ntmps137
    go_wp2
    go_ret
    have hd : letterB n = false := by simp [letterB]; omega
    exact ⟨by rw [hd]; rfl, rfl⟩
end Go.Proofs.YthfbjfocmnikaaaGreatDoor

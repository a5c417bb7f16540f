/- slices.Clone of dots and of ops, walked. Conditions: few elements. -/
import Derived.Test.YtobdollnkndmeaaDoorDocAt
namespace Go.Proofs.YtobdollnkndmeaaDoor
open Go.RowKit
set_option linter.unusedVariables false
theorem elemD_ : Elem Tryd.prog 32 31 2 16 := Elem.mk_ (z := .agg #[.int .i64 0, .int .i64 0]) Tryd.underlying32 (by kernel_rfl) rfl (by decide)
set_option maxRecDepth 100000 in
theorem cloneD (w : World) (B : Nat) (A : Option Addr) (n c : Nat) (xs : List Value) (hr : Reads w B 2 A n xs) (h1 : OneCells xs) (hf : Fits n 16) (hB : B ≤ w.heap.size) :
    Calls Tryd.prog 18 #[.slice A n c] w (ClonePost w 31 2 n xs) := by
  have HF : Fits (0 + n) 16 := by simpa using hf
  have HR := hr.alloc hB (.cells #[] 31)
  cases A with
  | none =>
    have he := Lib.run_eql_slice_nil (P := Tryd.prog) w 32 31 none n c 0 0 Tryd.underlying32
    go_enter Tryd.func18, Tryd.ntmps18
    go_wp2
    go_ret
    have hn : n = 0 := by
      rcases Nat.eq_zero_or_pos n with h | h
      · exact h
      · obtain ⟨_, h, _⟩ := hr.2 h; cases h
    subst hn
    have hx : xs = [] := List.eq_nil_of_length_eq_zero (by simpa using hr.1)
    subst hx
    exact ⟨none, 0, rfl, Own.nil _ _ _ _, Below.refl _ _⟩
  | some ad =>
    have heS := Lib.run_eql_slice_nil (P := Tryd.prog) w 32 31 (some ad) n c 0 0 Tryd.underlying32
    go_enter Tryd.func18, Tryd.ntmps18
    go_wp2_with (at_builtin; refine wpList_app _ (.tmp 5) (.tmp 6) rfl rfl elemD_ rfl rfl (Own.made w 31 w.heap.size (Nat.le_refl _) 2) HR h1 HF (by simp) ?_; intro A' c' w1 HO HL HB)
    go_ret
    refine ⟨A', c', rfl, by simpa using HO, ?_⟩
    exact ((Below.refl _ _).alloc (Nat.le_refl _) _).trans (HL.below (by simp) (by simp [ob]))


theorem elemO_ : Elem Tryd.prog 22 34 6 72 := Elem.mk_ (z := .agg #[.int .i64 0, .int .i64 0, .int .i64 0, .string ⟨#[]⟩, .int .i64 0, .slice none 0 0]) Tryd.underlying22 (by kernel_rfl) rfl (by decide)
end Go.Proofs.YtobdollnkndmeaaDoor

/- slices.Clone of dots and of ops, walked. Conditions: few elements. -/
import Derived.Test.YtpofdjikogoobaaDocAt
namespace Go.Proofs.Ytpofdjikogoobaa
open Go.RowKit
set_option linter.unusedVariables false
theorem elemD_ : Elem Try.prog 48 47 2 16 := Elem.mk_ (z := .agg #[.int .i64 0, .int .i64 0]) Try.underlying48 (by kernel_rfl) rfl (by decide)
set_option maxRecDepth 100000 in
theorem cloneD (w : World) (B : Nat) (A : Option Addr) (n c : Nat) (xs : List Value) (hr : Reads w B 2 A n xs) (h1 : OneCells xs) (hf : Fits n 16) (hB : B ≤ w.heap.size) :
    Calls Try.prog 50 #[.slice A n c] w (ClonePost w 47 2 n xs) := by
  have HF : Fits (0 + n) 16 := by simpa using hf
  have HR := hr.alloc hB (.cells #[] 47)
  cases A with
  | none =>
    have he := Lib.run_eql_slice_nil (P := Try.prog) w 48 47 none n c 0 0 Try.underlying48
    go_enter Try.func50, Try.ntmps50
    go_wp2
    go_ret
    have hn : n = 0 := by
      rcases Nat.eq_zero_or_pos n with h | h
      · exact h
      · obtain ⟨_, h, _⟩ := hr.2 h; cases h
    subst hn
    have hx : xs = [] := List.eq_nil_of_length_eq_zero (by simpa using hr.1)
    subst hx
    exact ⟨none, 0, rfl, Own.nil _ _ _ _, Below.refl _ _⟩
  | some ad =>
    have heS := Lib.run_eql_slice_nil (P := Try.prog) w 48 47 (some ad) n c 0 0 Try.underlying48
    go_enter Try.func50, Try.ntmps50
    go_wp2_with (at_builtin; refine wpList_app _ (.tmp 5) (.tmp 6) rfl rfl elemD_ rfl rfl (Own.made w 47 w.heap.size (Nat.le_refl _) 2) HR h1 HF (by simp) ?_; intro A' c' w1 HO HL HB)
    go_ret
    refine ⟨A', c', rfl, by simpa using HO, ?_⟩
    exact ((Below.refl _ _).alloc (Nat.le_refl _) _).trans (HL.below (by simp) (by simp [ob]))


theorem elemO_ : Elem Try.prog 51 50 6 72 := Elem.mk_ (z := .agg #[.int .i64 0, .int .i64 0, .int .i64 0, .string ⟨#[]⟩, .int .i64 0, .slice none 0 0]) Try.underlying51 (by kernel_rfl) rfl (by decide)
set_option maxRecDepth 100000 in
theorem cloneO (w : World) (B : Nat) (A : Option Addr) (n c : Nat) (xs : List Value) (hr : Reads w B 6 A n xs) (h1 : OneCells xs) (hf : Fits n 72) (hB : B ≤ w.heap.size) :
    Calls Try.prog 52 #[.slice A n c] w (ClonePost w 50 6 n xs) := by
  have HF : Fits (0 + n) 72 := by simpa using hf
  have HR := hr.alloc hB (.cells #[] 50)
  cases A with
  | none =>
    have he := Lib.run_eql_slice_nil (P := Try.prog) w 51 50 none n c 0 0 Try.underlying51
    go_enter Try.func52, Try.ntmps52
    go_wp2
    go_ret
    have hn : n = 0 := by
      rcases Nat.eq_zero_or_pos n with h | h
      · exact h
      · obtain ⟨_, h, _⟩ := hr.2 h; cases h
    subst hn
    have hx : xs = [] := List.eq_nil_of_length_eq_zero (by simpa using hr.1)
    subst hx
    exact ⟨none, 0, rfl, Own.nil _ _ _ _, Below.refl _ _⟩
  | some ad =>
    have heS := Lib.run_eql_slice_nil (P := Try.prog) w 51 50 (some ad) n c 0 0 Try.underlying51
    go_enter Try.func52, Try.ntmps52
    go_wp2_with (at_builtin; refine wpList_app _ (.tmp 5) (.tmp 6) rfl rfl elemO_ rfl rfl (Own.made w 50 w.heap.size (Nat.le_refl _) 6) HR h1 HF (by simp) ?_; intro A' c' w1 HO HL HB)
    go_ret
    refine ⟨A', c', rfl, by simpa using HO, ?_⟩
    exact ((Below.refl _ _).alloc (Nat.le_refl _) _).trans (HL.below (by simp) (by simp [ob]))


end Go.Proofs.Ytpofdjikogoobaa

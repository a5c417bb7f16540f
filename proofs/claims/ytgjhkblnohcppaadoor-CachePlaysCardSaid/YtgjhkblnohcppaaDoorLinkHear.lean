/- What an end of a line hears, sends, has: the other methods of link.End, walked. Conditions: what holds of each end (LEnd.Ok). -/
import Derived.Test.YtgjhkblnohcppaaDoorLinkSpec
import Derived.Test.YtgjhkblnohcppaaDoorPlaceSpec
namespace Go.Proofs.YtgjhkblnohcppaaDoor
open Go.RowKit
set_option linter.unusedVariables false


theorem cloneS (w : World) (B : Nat) (A : Option Addr) (n c : Nat) (xs : List Value) (hr : Reads w B 1 A n xs) (h1 : OneCells xs) (hf : Fits n 16) (hB : B ≤ w.heap.size) :
    Calls Tryd.prog 67 #[.slice A n c] w fun e w' => ∃ A' c', e = .returned (.slice A' n c') ∧ Own w' w.heap.size 9 1 A' n c' xs ∧ Below w.heap.size w w' := by
  have HF : Fits (0 + n) 16 := by simpa using hf
  have HR := hr.alloc hB (.cells #[] 9)
  cases A with
  | none =>
    have he := Lib.run_eql_slice_nil (P := Tryd.prog) w 31 9 none n c 0 0 Tryd.underlying31
    go_enter Tryd.func67, Tryd.ntmps67
    go_wp2
    go_ret
    have hn : n = 0 := by
      rcases Nat.eq_zero_or_pos n with h | h
      · exact h
      · obtain ⟨_, h, _⟩ := hr.2 h; cases h
    subst hn
    have hx : xs = [] := List.eq_nil_of_length_eq_zero (by simpa using hr.1)
    subst hx
    exact ⟨none, 0, rfl, Own.nil _ _ _ _, Below.refl _ _⟩
  | some ad =>
    have heS := Lib.run_eql_slice_nil (P := Tryd.prog) w 31 9 (some ad) n c 0 0 Tryd.underlying31
    go_enter Tryd.func67, Tryd.ntmps67
    go_wp2_with (at_builtin; refine wpList_app _ (.tmp 5) (.tmp 6) rfl rfl elemS rfl rfl (Own.made w 9 w.heap.size (Nat.le_refl _) 1) HR h1 HF (by simp) ?_; intro A' c' w1 HO HL HB)
    go_ret
    refine ⟨A', c', rfl, by simpa using HO, ?_⟩
    exact ((Below.refl _ _).alloc (Nat.le_refl _) _).trans (HL.below (by simp) (by simp [ob]))

def GotPost (w : World) (st : LEnd) (e : Ending) (w' : World) : Prop :=
  ∃ V c, e = .returned (.slice V st.got.length c) ∧ Own w' w.heap.size 9 1 V st.got.length c (strs st.got) ∧ Below w.heap.size w w'
end Go.Proofs.YtgjhkblnohcppaaDoor

/- clear on the end of a row of the call's own. Plain lemmas. Conditions: none. -/
import Derived.Test.YtgkfmpkankjkdaaIns
namespace Go.Proofs.Ytgkfmpkankjkdaa
open Go.RowKit
set_option linter.unusedVariables false
theorem zeroCells_len (z : Array Value) (n : Nat) : (Builtin.zeroCells z n).size = n * z.size := by simp [Builtin.zeroCells]
theorem zeroCells_one {z : Array Value} (h : ∀ u ∈ z.toList, u.oneCell' = true) (n : Nat) : ∀ u ∈ (Builtin.zeroCells z n).toList, u.oneCell' = true := by
  intro u hu
  simp only [Builtin.zeroCells, Array.toList_map, List.mem_map, Array.toList_range, List.mem_range] at hu
  obtain ⟨i, hi, rfl⟩ := hu
  have hz : 0 < z.size := by
    rcases Nat.eq_zero_or_pos z.size with h0 | h0
    · rw [h0, Nat.mul_zero] at hi; omega
    · exact h0
  have hm : i % z.size < z.size := Nat.mod_lt _ hz
  rw [getElem!_pos z _ hm]
  exact h _ (by rw [Array.mem_toList_iff]; exact Array.getElem_mem hm)
theorem clear_own {P : Program} {w : World} {B g n c size : Nat} {t e : TypeId} {xs : List Value} {z : Value} (ht : P.underlying t = some (.slice e)) (hv : ∀ w, (zeroValue e).run P w = .ok z w) (hzs : z.cells.size = size)
    (hz1 : ∀ u ∈ z.cells.toList, u.oneCell' = true) (hO : Own w B e size (some ⟨g, 0, none⟩) n c xs) (i : Nat) (hi : i < n) :
    ∃ w', (∀ ty, (Builtin.clear_ #[t] ty #[.slice (some ⟨g, i * size, none⟩) (n - i) (c - i)]).run P w = .ok (.tuple #[]) w') ∧ Own w' B e size (some ⟨g, 0, none⟩) i c (xs.take (i * size)) ∧ Only [g] w w' := by
  obtain ⟨h1, h2⟩ := hO
  rcases h2 with ⟨h2, _⟩ | ⟨g', cap, cur, e1, e2, e3, e4, e5, e6, e7⟩
  · cases h2
  · injection e1 with e1 _ ec
    injection e1 with e1
    injection e1 with e1
    subst e1 ec
    have hzl : (Builtin.zeroCells z.cells (n - i)).toList.length = (n - i) * size := by rw [Array.length_toList, zeroCells_len, hzs]
    have hmul : (n - i) * size = n * size - i * size := Nat.sub_mul n i size
    have hle : i * size ≤ n * size := Nat.mul_le_mul_right size (by omega)
    have hle2 : n * size ≤ c * size := Nat.mul_le_mul_right size e4
    have hst := run_storeCells_at (P := P) g (i * size) e (Builtin.zeroCells z.cells (n - i)).toList 0 cur w e3 (by rw [hzl, e6]; omega) (zeroCells_one hz1 _)
    simp only [Nat.add_zero] at hst
    refine ⟨w.setRow g (cur.toList.take (i * size) ++ (Builtin.zeroCells z.cells (n - i)).toList ++ cur.toList.drop (i * size + (Builtin.zeroCells z.cells (n - i)).toList.length)).toArray, fun ty => ?_, ?_, only_setRow w (e := e) (cur := cur) e3 _⟩
    · obtain ⟨m, hm⟩ : ∃ m, n - i = m + 1 := ⟨n - i - 1, by omega⟩
      rw [hm] at hst ⊢
      simp [Builtin.clear_, run_underlying ht, hv, hst]
    · refine ⟨by rw [List.length_take, h1]; omega, .inr ⟨g, c, _, rfl, e2, setRow_heap w g cur _ e _ e3, by omega, e5, ?_, ?_⟩⟩
      · simp only [List.size_toArray, List.length_append, List.length_take, List.length_drop, Array.length_toList, hzl, e6]
        omega
      · simp only [List.append_assoc]
        rw [List.take_append_of_le_length (by rw [List.length_take, Array.length_toList, e6]; omega), List.take_take, ← e7, List.take_take, Nat.min_self, Nat.min_eq_left hle]
end Go.Proofs.Ytgkfmpkankjkdaa

/- Places behind one another are short. Plain lemmas. Conditions: stated with each. -/
import Derived.Test.YtgninfpdomcobaaDoorPlaceLaw
namespace Go.Proofs.YtgninfpdomcobaaDoor
set_option linter.unusedVariables false

theorem quarter_upto {a b : ByteArray} {m : Nat} (hm : 1 ≤ many a b m) : ∀ f n, n ≤ m → m < n + f → (quarterFrom a b n f).length ≤ m := by
  intro f
  induction f with
  | zero => intro n h1 h2; omega
  | succ f ih =>
    intro n h1 h2
    rw [quarterFrom]
    split
    · rename_i h
      have : n ≠ m := by rintro rfl; omega
      exact ih (n + 1) (by omega) (by omega)
    · rw [lets_len]; exact h1
theorem dig_last {p : ByteArray} (h : placeErr p = 0) : ∃ k, p.size = k + 2 ∧ 1 ≤ dig p (k + 1) ∧ dig p (k + 1) ≤ 8 ∧ 1 ≤ dig p k := by
  obtain ⟨_, hl, h2, h3, h4, h5⟩ := okPlace h
  obtain ⟨k, hk⟩ : ∃ k, p.size = k + 2 := ⟨p.size - 2, by omega⟩
  rw [hk] at h3 h4 h5
  have e1 : dig p (k + 1) = byteAt p (k + 1) - 97 := if_pos (by omega)
  have e2 : dig p k = byteAt p k - 97 := if_pos (by omega)
  have hb := hl k (by omega)
  simp only [Nat.add_sub_cancel, show k + 2 - 1 = k + 1 by omega] at h3 h4 h5
  exact ⟨k, hk, by omega, by omega, by omega⟩
theorem empty_numb (n : Nat) : numb ⟨#[]⟩ n = 0 := by
  induction n with
  | zero => rfl
  | succ n ih => simp [numb, ih, dig, ByteArray.size]
theorem behind_short {p : ByteArray} (h : placeErr p = 0) (hs : p.size ≤ 11) : (quarter p ⟨#[]⟩).length ≤ p.size := by
  obtain ⟨k, hk, d1, d2, d3⟩ := dig_last h
  have hlt := numb_lt (okPlace h).2.1 (k + 2)
  have e : numb p (k + 2) = numb p (k + 1) * 26 + dig p (k + 1) := rfl
  have ep : 26 ^ (k + 2) = 26 ^ (k + 1) * 26 := by rw [Nat.pow_succ]
  refine quarter_upto (m := p.size) ?_ 11 1 (by omega) (by omega)
  rw [hk]
  have hh : high ⟨#[]⟩ (k + 2) = (26 ^ (k + 2) : Nat) - 1 := if_pos rfl
  unfold many
  rw [hh]
  generalize numb p (k + 2) = N at *
  generalize 26 ^ (k + 2) = P at *
  generalize 26 ^ (k + 1) = Q at *
  generalize numb p (k + 1) = M at *
  rw [if_neg (by omega)]
  unfold upTo
  omega
theorem ahead_short {p : ByteArray} (h : placeErr p = 0) (hs : p.size ≤ 11) : (quarter ⟨#[]⟩ p).length ≤ p.size := by
  obtain ⟨k, hk, d1, d2, d3⟩ := dig_last h
  have e : numb p (k + 2) = numb p (k + 1) * 26 + dig p (k + 1) := rfl
  have e2 : numb p (k + 1) = numb p k * 26 + dig p k := rfl
  refine quarter_upto (m := p.size) ?_ 11 1 (by omega) (by omega)
  rw [hk]
  have hh : high p (k + 2) = (numb p (k + 2) : Int) - 1 := if_neg (by omega)
  unfold many
  rw [hh, empty_numb]
  rw [if_neg (by omega)]
  unfold upTo
  omega
theorem row_short {p : ByteArray} {i : Nat} (h : p.size = 0 ∧ i = 0 ∨ placeErr p = 0 ∧ p.size ≤ i + 1) : (quarter p ⟨#[]⟩).length + 1 ≤ i + 2 ∧ (quarter ⟨#[]⟩ p).length + 1 ≤ i + 2 := by
  rcases h with ⟨h, rfl⟩ | ⟨h, hs⟩
  · obtain ⟨⟨l⟩⟩ := p
    have hl : l = [] := List.eq_nil_of_length_eq_zero h
    subst hl
    decide +kernel
  · by_cases h12 : p.size ≤ 11
    · have := behind_short h h12; have := ahead_short h h12; omega
    · have := quarter_le p ⟨#[]⟩; have := quarter_le ⟨#[]⟩ p; omega
end Go.Proofs.YtgninfpdomcobaaDoor

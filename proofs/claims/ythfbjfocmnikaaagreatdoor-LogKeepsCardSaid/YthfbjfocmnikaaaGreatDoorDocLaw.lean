/- A document stays right, by ops: plain. Conditions: none. -/
import Derived.Test.YthfbjfocmnikaaaGreatDoorBookLaw
import Derived.Test.YthfbjfocmnikaaaGreatDoorDocSpec
import Derived.Test.YthfbjfocmnikaaaGreatDoorMarkLaw
namespace Go.Proofs.YthfbjfocmnikaaaGreatDoor
open Go.RowKit
set_option linter.unusedVariables false
theorem op_ok {o : LOp} (h : opErr o = 0) : dotErr o.dot = 0 ∧ (1 ≤ o.what ∧ o.what ≤ 4) ∧ placeErr o.place = 0 ∧ (o.what = 1 → letterB o.letter = true) ∧ (o.what ≠ 1 → o.letter = 0) ∧ (o.what ≠ 4 → o.seen.length = 0) ∧ o.seen.length ≤ 40 ∧ riseErr o.seen = 0 := by
  unfold opErr at h
  split at h
  · omega
  rename_i h1
  split at h
  · omega
  rename_i h2
  split at h
  · omega
  rename_i h3
  split at h
  · omega
  rename_i h4
  split at h
  · omega
  rename_i h5
  split at h
  · omega
  rename_i h6
  split at h
  · omega
  rename_i h7
  refine ⟨by omega, by omega, by omega, fun hw => ?_, by omega, by omega, by omega, h⟩
  cases hl : letterB o.letter
  · exact absurd ⟨hw, hl⟩ h4
  · rfl
theorem vec_zero {l : List Int} (h : l.length = 8) (hn : ∀ n ∈ l, 0 ≤ n ∧ n ≤ 9999) : vecErr l = 0 := by
  unfold vecErr
  rw [if_neg (by omega), if_neg]
  intro hb
  obtain ⟨n, h1, h2⟩ := List.any_eq_true.1 hb
  have := hn n h1
  simp only [badN, Bool.or_eq_true, decide_eq_true_eq] at h2
  omega
theorem add_ok {l : List Int} {d : LDot} (h : addErr l d = 0) : vecErr l = 0 ∧ dotErr d = 0 ∧ nOf l d = d.n - 1 := by
  unfold addErr at h
  split at h
  · omega
  rename_i h1
  split at h
  · omega
  split at h
  · omega
  obtain ⟨h2, h3⟩ := vd_ok (show vdErr l d = 0 by omega)
  exact ⟨h2, h3, by omega⟩
theorem add_vec {l : List Int} {d : LDot} (h : vecErr l = 0) (hd : dotErr d = 0) : vecErr (addRes l d) = 0 := by
  obtain ⟨h1, h2⟩ := vec_ok h
  obtain ⟨k, hk, hw, n1, n2⟩ := dot_in hd
  refine vec_zero (by simp [addRes, h1]) fun n hn => ?_
  unfold addRes at hn
  rcases List.mem_or_eq_of_mem_set hn with hn | rfl
  · exact h2 n hn
  · omega
theorem nOf_add {l : List Int} {d e : LDot} (h : vecErr l = 0) (hd : dotErr d = 0) (he : dotErr e = 0) : nOf (addRes l d) e = if e.who = d.who then d.n else nOf l e := by
  obtain ⟨h1, h2⟩ := vec_ok h
  obtain ⟨k, hk, hw, n1, n2⟩ := dot_in hd
  obtain ⟨j, hj, hw2, _, _⟩ := dot_in he
  unfold nOf addRes
  rw [hw, hw2, show ((k : Int) + 1 - 1).toNat = k by omega, show ((j : Int) + 1 - 1).toNat = j by omega]
  by_cases hjk : j = k
  · subst hjk
    rw [if_pos rfl, List.getD, List.getElem?_set_self (by omega)]; rfl
  · rw [if_neg (by omega), List.getD, List.getElem?_set_ne (by omega)]; rfl
theorem hasRes_iff {l : List Int} {d : LDot} : hasRes l d = true ↔ vecErr l = 0 ∧ dotErr d = 0 ∧ d.n ≤ nOf l d := by
  unfold hasRes
  simp only [Bool.and_eq_true, decide_eq_true_eq]
  constructor
  · rintro ⟨h1, h2⟩
    exact ⟨(vd_ok h1).1, (vd_ok h1).2, h2⟩
  · rintro ⟨h1, h2, h3⟩
    exact ⟨by unfold vdErr; rw [if_neg (fun h => h h1)]; exact h2, h3⟩
structure LDoc.Ok (d : LDoc) : Prop where
  book : BookOk d.book
  marks : MarksOk d.marks
  known : vecErr d.known = 0
  few : d.ops.length ≤ 400
  ops : ∀ o ∈ d.ops, opErr o = 0 ∧ hasRes d.known o.dot = true
namespace LDoc
theorem new_ok : LDoc.new.Ok where
  book := ⟨by simp [new], by simp [new], by simp [new, Rising]⟩
  marks := ⟨by simp [new], by simp [new], List.Pairwise.nil⟩
  known := by decide +kernel
  few := by simp [new]
  ops := by simp [new]
theorem turn_rest (d : LDoc) (o : LOp) : (d.turn o).known = d.known ∧ (d.turn o).ops = d.ops := by
  unfold turn cut join
  repeat' split
  all_goals exact ⟨rfl, rfl⟩
theorem turn_ok {d : LDoc} (h : d.Ok) (o : LOp) (hp : opErr o = 0) : BookOk (d.turn o).book ∧ MarksOk (d.turn o).marks := by
  obtain ⟨_, hw, _⟩ := op_ok hp
  unfold turn
  split
  · split
    · exact ⟨write_book ‹_›, h.marks⟩
    · exact ⟨h.book, h.marks⟩
  split
  · split
    · exact ⟨strike_book ‹_›, h.marks⟩
    · exact ⟨h.book, h.marks⟩
  split
  · unfold cut
    split
    · exact ⟨h.book, h.marks⟩
    split
    · exact ⟨h.book, cut_marks ‹_›⟩
    · exact ⟨h.book, h.marks⟩
  split
  · unfold join
    split
    · exact ⟨h.book, join_ok h.marks _ _⟩
    · exact ⟨h.book, h.marks⟩
  · omega
theorem applyB_ok {d : LDoc} (h : d.Ok) {o : LOp} (hb : d.applyB o = true) : opErr o = 0 ∧ addErr d.known o.dot = 0 ∧ d.ops.length < 400 ∧ d.turnE o = 0 ∧ hasRes d.known o.dot = false := by
  unfold applyB at hb
  simp only [Bool.and_eq_true, decide_eq_true_eq, Bool.not_eq_true', Bool.and_eq_false_iff, decide_eq_false_iff_not] at hb
  obtain ⟨h1, h2⟩ := hb
  unfold applyE at h1
  split at h1
  · omega
  rename_i h3
  split at h1
  · omega
  split at h1
  · rename_i h4
    rw [h4] at h2
    rcases h2 with h2 | h2
    · omega
    · cases h2
  rename_i h4
  split at h1
  · omega
  split at h1
  · omega
  refine ⟨by omega, by omega, by omega, h1, by simpa using h4⟩
theorem apply_ok {d : LDoc} (h : d.Ok) (o : LOp) : (d.apply o).Ok := by
  unfold apply
  split
  · rename_i hb
    obtain ⟨h1, h2, h3, h4, h5⟩ := applyB_ok h hb
    obtain ⟨t1, t2⟩ := turn_ok h o h1
    obtain ⟨a1, a2, a3⟩ := add_ok h2
    refine ⟨t1, t2, add_vec a1 a2, by simp; omega, fun x hx => ?_⟩
    simp only [List.mem_append, List.mem_singleton] at hx
    rcases hx with hx | rfl
    · obtain ⟨x1, x2⟩ := h.ops x hx
      refine ⟨x1, ?_⟩
      obtain ⟨y1, y2, y3⟩ := hasRes_iff.1 x2
      refine hasRes_iff.2 ⟨add_vec a1 a2, y2, ?_⟩
      rw [nOf_add a1 a2 y2]
      split
      · rename_i hw
        have : nOf d.known x.dot = nOf d.known o.dot := by unfold nOf; rw [hw]
        omega
      · exact y3
    · refine ⟨h1, hasRes_iff.2 ⟨add_vec a1 a2, a2, ?_⟩⟩
      rw [nOf_add a1 a2 a2, if_pos rfl]
      omega
  · exact h
end LDoc
end Go.Proofs.YthfbjfocmnikaaaGreatDoor

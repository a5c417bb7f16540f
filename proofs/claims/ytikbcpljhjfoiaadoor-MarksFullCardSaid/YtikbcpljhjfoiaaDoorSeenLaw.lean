/- What is seen at a place, of marks cut and joined. Plain lemmas. Conditions: none. -/
import Derived.Test.YtikbcpljhjfoiaaDoorMarkSeen
namespace Go.Proofs.YtikbcpljhjfoiaaDoor
open Go.RowKit
set_option linter.unusedVariables false
theorem seenAt_pair {l : List LMark} (h : l.Pairwise ltM) (p : ByteArray) : (seenAt l p).Pairwise ltD := by
  unfold seenAt
  rw [List.pairwise_map]
  refine (h.filter _).imp_of_mem fun {a b} ha hb hab => ?_
  have e1 : a.place = p := of_decide_eq_true (List.mem_filter.1 ha).2
  have e2 : b.place = p := of_decide_eq_true (List.mem_filter.1 hb).2
  rcases hab with h1 | ⟨_, h1⟩
  · rw [e1, e2, lt_irrefl] at h1; cases h1
  · exact h1
theorem seenAt_ok {l : List LMark} (h : MarksOk l) (p : ByteArray) : ∀ d ∈ seenAt l p, dotErr d = 0 := by
  intro d hd
  have h1 := h.marks _ (mem_seenAt.1 hd)
  unfold markErr at h1
  by_cases h2 : placeErr (⟨p, d⟩ : LMark).place ≠ 0
  · rw [if_pos h2] at h1; exact absurd h1 h2
  · rw [if_neg h2] at h1; exact h1
theorem riseD_zero {l : List LDot} (h0 : ∀ d ∈ l, dotErr d = 0) (hp : l.Pairwise ltD) : riseErr l = 0 := by
  have ha : l.all (fun d => dotErr d == 0) = true := by
    rw [List.all_eq_true]
    intro d hd
    simpa using h0 d hd
  refine rise_ok2 (k := l.length - 1) ha (by omega) fun j hj => ?_
  rw [getD_of (show j < l.length by omega), getD_of (show j + 1 < l.length by omega), ordD_lt]
  exact List.pairwise_iff_getElem.1 hp j (j + 1) (by omega) (by omega) (by omega)
theorem rise_pair {l : List LDot} (h : riseErr l = 0) : (∀ d ∈ l, dotErr d = 0) ∧ l.Pairwise ltD := by
  unfold riseErr at h
  by_cases h1 : l.all (fun d => dotErr d == 0) = true
  · rw [if_pos h1] at h
    by_cases h2 : (List.range (l.length - 1)).all (fun k => decide (ordD (l.getD k ⟨0, 0⟩) (l.getD (k + 1) ⟨0, 0⟩) < 0)) = true
    · rw [List.all_eq_true] at h1 h2
      refine ⟨fun d hd => by simpa using h1 d hd, ?_⟩
      have step : ∀ j (hj : j + 1 < l.length), ltD (l[j]'(by omega)) l[j + 1] := fun j hj => by
        have := h2 j (by simp; omega)
        rw [decide_eq_true_iff, getD_of (show j < l.length by omega), getD_of hj, ordD_lt] at this
        exact this
      have far : ∀ n i (hi : i < l.length) (hj : i + n + 1 < l.length), ltD l[i] l[i + n + 1] := fun n => by
        induction n with
        | zero => intro i hi hj; exact step i hj
        | succ n ih => intro i hi hj; exact ltD_trans (ih i hi (by omega)) (step (i + n + 1) hj)
      rw [List.pairwise_iff_getElem]
      intro i j hi hj hij
      obtain ⟨n, rfl⟩ : ∃ n, j = i + n + 1 := ⟨j - i - 1, by omega⟩
      exact far n i hi hj
    · rw [if_neg h2] at h; omega
  · rw [if_neg h1] at h; omega
theorem seenAt_join (l : List LMark) (p : ByteArray) (seen : List LDot) : seenAt (joinRes l p seen) p = (seenAt l p).filter (fun d => !inD seen d) := by
  unfold seenAt joinRes
  rw [List.filter_map, List.filter_filter, List.filter_filter]
  congr 1
  refine List.filter_congr fun m _ => ?_
  unfold joined
  by_cases h : m.place = p <;> simp [h]
theorem seenAt_self (l : List LMark) (p : ByteArray) : seenAt (joinRes l p (seenAt l p)) p = [] := by
  rw [seenAt_join, List.filter_eq_nil_iff]
  intro d hd
  rw [inD_iff.2 hd]; decide
theorem join_len (l : List LMark) (p : ByteArray) : (joinRes l p (seenAt l p)).length + (seenAt l p).length = l.length := by
  have e : joinRes l p (seenAt l p) = l.filter (fun m => !decide (m.place = p)) := by
    unfold joinRes
    refine List.filter_congr fun m hm => ?_
    unfold joined
    by_cases h : m.place = p
    · have : inD (seenAt l p) m.dot = true := inD_iff.2 (mem_seenAt.2 (by rw [← h]; exact hm))
      simp [h, this]
    · simp [h]
  rw [e]
  unfold seenAt
  rw [List.length_map]
  clear e
  induction l with
  | nil => rfl
  | cons x l ih =>
    by_cases h : x.place = p
    · simp [h]; omega
    · simp [h]; omega
theorem single {l : List LDot} (hp : l.Pairwise ltD) {d : LDot} (h : ∀ x ∈ l, x = d) (hm : d ∈ l) : l = [d] := by
  cases l with
  | nil => simp at hm
  | cons x l =>
    rw [List.pairwise_cons] at hp
    have hx := h x (by simp)
    cases l with
    | nil => rw [hx]
    | cons y l =>
      have hy := h y (by simp)
      have := hp.1 y (by simp)
      rw [hx, hy] at this
      exact absurd this (ltD_irrefl d)
theorem seenAt_cut {l : List LMark} (h : l.Pairwise ltM) (m : LMark) : seenAt (joinRes (cutRes l m) m.place (seenAt l m.place)) m.place = if inD (seenAt l m.place) m.dot = true then [] else [m.dot] := by
  have key : ∀ d, d ∈ seenAt (cutRes l m) m.place ↔ d ∈ seenAt l m.place ∨ d = m.dot := fun d => by
    rw [mem_seenAt, mem_seenAt, mem_cut h]
    constructor
    · rintro (h1 | h1)
      · exact .inl h1
      · right; rw [← h1]
    · rintro (h1 | h1)
      · exact .inl h1
      · right; rw [h1]
  have hp : (seenAt (joinRes (cutRes l m) m.place (seenAt l m.place)) m.place).Pairwise ltD := seenAt_pair ((cut_rising h m).filter _) _
  by_cases hi : inD (seenAt l m.place) m.dot = true
  · rw [if_pos hi, seenAt_join, List.filter_eq_nil_iff]
    intro d hd
    rcases (key d).1 hd with h1 | h1
    · rw [inD_iff.2 h1]; decide
    · rw [h1, hi]; decide
  · rw [if_neg hi]
    refine single hp (fun x hx => ?_) ?_
    · rw [seenAt_join, List.mem_filter] at hx
      rcases (key x).1 hx.1 with h1 | h1
      · have := inD_iff.2 h1
        rw [this] at hx
        simp at hx
      · exact h1
    · rw [seenAt_join, List.mem_filter]
      refine ⟨(key _).2 (.inr rfl), ?_⟩
      have : inD (seenAt l m.place) m.dot = false := by simpa using hi
      rw [this]; rfl
theorem cut_twice {l : List LMark} (h : l.Pairwise ltM) (m : LMark) : hasM (cutRes l m) m = true := (hasM_iff (cut_rising h m) m).2 ((mem_cut h).2 (.inr rfl))
end Go.Proofs.YtikbcpljhjfoiaaDoor

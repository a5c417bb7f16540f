/- Ops that one document took are taken by another in any order that keeps each author's: plain. Conditions: none. -/
import Derived.Test.YtobdollnkndmeaaDoorDocMeet
namespace Go.Proofs.YtobdollnkndmeaaDoor
open Go.RowKit
set_option linter.unusedVariables false
def Numbered (l : List LOp) : Prop := ∀ (i : Int) (k : Nat) (o : LOp), (ofWho i l)[k]? = some o → o.dot.n = (k : Int) + 1
theorem Numbered.nil : Numbered [] := fun i k o h => by simp [ofWho] at h
namespace LDoc
theorem apply_says {d : LDoc} (hk : d.Ok) (h : Says d.ops d) (o : LOp) : Says (d.apply o).ops (d.apply o) := by
  unfold apply
  split
  · rename_i hb
    obtain ⟨h1, h2, h3, h4, h5⟩ := applyB_ok hk hb
    exact h.step hk h1 h2 h4
  · exact h
theorem apply_numbered {d : LDoc} (hk : d.Ok) (h : Says d.ops d) (hn : Numbered d.ops) (o : LOp) : Numbered (d.apply o).ops := by
  unfold apply
  split
  · rename_i hb
    obtain ⟨h1, h2, h3, h4, h5⟩ := applyB_ok hk hb
    obtain ⟨a1, a2, a3⟩ := add_ok h2
    have h6 := h.known o.dot a2
    intro i k x hx
    simp only at hx
    rw [ofWho_add] at hx
    rcases Nat.lt_or_ge k (ofWho i d.ops).length with hl | hl
    · rw [List.getElem?_append_left hl] at hx
      exact hn i k x hx
    · rw [List.getElem?_append_right hl] at hx
      by_cases hw : o.dot.who = i
      · have e1 : ofWho i [o] = [o] := by simp [ofWho, hw]
        rw [e1] at hx
        have hk0 : k - (ofWho i d.ops).length = 0 := by
          rcases Nat.eq_zero_or_pos (k - (ofWho i d.ops).length) with h7 | h7
          · exact h7
          · rw [List.getElem?_eq_none (by simp; omega)] at hx; cases hx
        rw [hk0] at hx
        simp at hx
        subst hx
        rw [hw] at h6
        omega
      · have e1 : ofWho i [o] = [] := by simp [ofWho, hw]
        rw [e1] at hx
        simp at hx
  · exact hn
/-- What may go wrong when an op is done that is the next of its author. -/
theorem turnE_few {d : LDoc} (hk : d.Ok) {o : LOp} (hp : opErr o = 0) : d.turnE o = 0 ∨ d.turnE o = 7 ∨ d.turnE o = 4 := by
  obtain ⟨p1, p2, p3, p4, p5, p6, p7, p8⟩ := op_ok hp
  have hb := bookErr_zero hk.book
  have hm := marks_zero hk.marks
  have hr : bookReady d.book o.place = 0 := by unfold bookReady; rw [if_neg (by omega)]; exact p3
  have hput : putErr d.book = 0 ∨ putErr d.book = 4 := by unfold putErr; split <;> simp
  have hme : markErr ⟨o.place, o.dot⟩ = 0 := by unfold markErr; simp only; rw [if_neg (by omega)]; exact p1
  unfold turnE
  rcases (show o.what = 1 ∨ o.what = 2 ∨ o.what = 3 ∨ o.what = 4 by omega) with hw | hw | hw | hw
  · rw [if_pos hw]
    unfold writeErr
    rw [if_neg (by omega), if_neg (by rw [p4 hw]; decide)]
    split
    · rcases hput with h | h <;> simp [h]
    split
    · exact .inr (.inl rfl)
    · exact .inl rfl
  · rw [if_neg (by omega), if_pos hw]
    unfold strikeErr
    rw [if_neg (by omega)]
    split
    · rcases hput with h | h <;> simp [h]
    · exact .inl rfl
  · rw [if_neg (by omega), if_neg (by omega), if_pos hw]
    unfold cutE
    split
    · exact .inl rfl
    · unfold cutErr
      rw [if_neg (by omega), if_neg (by omega)]
      split
      · exact .inl rfl
      split
      · exact .inr (.inr rfl)
      · exact .inl rfl
  · rw [if_neg (by omega), if_neg (by omega), if_neg (by omega), if_pos hw]
    unfold joinE joinErr
    rw [if_neg (by omega), if_neg (by omega), if_neg (by omega)]
    exact .inl p8
/-- The next op of an author. -/
theorem next {d : LDoc} (hk : d.Ok) (h : Says d.ops d) {done pre post : List LOp} {o : LOp} (hn : Numbered done) (hg : ∀ x ∈ done, opErr x = 0)
    (hl : d.ops.length < 400) (hs : ∀ i, ofWho i (d.ops ++ (pre ++ o :: post)) = ofWho i done) (hf : ∀ x ∈ pre, x.dot.who ≠ o.dot.who) :
    (d.applyE o = 0 ∨ d.applyE o = 7 ∨ d.applyE o = 4) ∧ (d.applyE o = 0 → d.applyB o = true ∧ (d.apply o).ops = d.ops ++ [o] ∧ ∀ i, ofWho i ((d.apply o).ops ++ (pre ++ post)) = ofWho i done) := by
  have hpre : ofWho o.dot.who pre = [] := by
    unfold ofWho
    rw [List.filter_eq_nil_iff]
    intro x hx
    simpa using hf x hx
  have hat : (ofWho o.dot.who done)[(ofWho o.dot.who d.ops).length]? = some o := by
    rw [← hs, ofWho_add, ofWho_add, hpre, List.nil_append, List.getElem?_append_right (Nat.le_refl _), Nat.sub_self]
    simp [ofWho]
  have hnum := hn _ _ _ hat
  have hp : opErr o = 0 := hg o (mem_ofWho.1 (List.mem_of_getElem? hat)).1
  obtain ⟨p1, p2, _⟩ := op_ok hp
  have h6 := h.known o.dot p1
  have hv : vdErr d.known o.dot = 0 := by unfold vdErr; rw [if_neg (fun h => h hk.known)]; exact p1
  have hh : hasRes d.known o.dot = false := by
    unfold hasRes
    rw [Bool.and_eq_false_iff]
    exact .inr (decide_eq_false (by omega))
  have ha : addErr d.known o.dot = 0 := by
    unfold addErr
    rw [if_neg (by omega), if_neg (by omega), if_neg (by omega)]
  have e1 : d.applyE o = d.turnE o := by
    unfold applyE
    rw [if_neg (by omega), if_neg (by omega), if_neg (by rw [hh]; decide), if_neg (by omega), if_neg (by omega)]
  refine ⟨by rw [e1]; exact turnE_few hk hp, fun h0 => ?_⟩
  have e2 : d.applyB o = true := by unfold applyB; rw [hh, decide_eq_true h0]; simp
  have e3 : (d.apply o).ops = d.ops ++ [o] := by unfold apply; rw [if_pos e2]
  refine ⟨e2, e3, fun i => ?_⟩
  rw [e3, ← hs i, ofWho_add, ofWho_add, ofWho_add, ofWho_add, ofWho_add, show o :: post = [o] ++ post from rfl, ofWho_add]
  by_cases hw : o.dot.who = i
  · subst hw
    rw [hpre]; simp
  · have e4 : ofWho i [o] = [] := by simp [ofWho, hw]
    rw [e4]; simp
end LDoc
end Go.Proofs.YtobdollnkndmeaaDoor

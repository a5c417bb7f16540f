/- (*doc.Doc).Ops, walked: a copy, its own down to the dots. Conditions: the document is right. -/
import Derived.Test.YthfbjfocmnikaaaGreatDoorDocRead
namespace Go.Proofs.YthfbjfocmnikaaaGreatDoor
open Go.RowKit
set_option linter.unusedVariables false
theorem ocells_set (l : List OpAt) (k : Nat) (hk : k < l.length) (V : Option Addr) (c : Nat) : (ocells l).set (k * 6 + 5) (.slice V l[k].op.seen.length c) = ocells (l.set k ⟨l[k].op, V, c⟩) := by
  apply List.ext_getElem?
  intro i
  by_cases hi : i < l.length * 6
  · have hd : i / 6 < l.length := by omega
    have hi2 : i = i / 6 * 6 + i % 6 := by omega
    rw [List.getElem?_set]
    have hl2 : (l.set k ⟨l[k].op, V, c⟩).length = l.length := by simp
    have e2 := ocells_at (l.set k ⟨l[k].op, V, c⟩) (i / 6) (i % 6) (by rw [hl2]; exact hd) (by omega)
    rw [← hi2] at e2
    have e1 := ocells_at l (i / 6) (i % 6) hd (by omega)
    rw [← hi2] at e1
    rw [e2, List.getElem_set]
    by_cases hk2 : k = i / 6
    · subst hk2
      rw [if_pos rfl]
      by_cases hm : i / 6 * 6 + 5 = i
      · rw [if_pos hm, if_pos (by rw [ocells_len]; omega), show i % 6 = 5 by omega]
        rfl
      · rw [if_neg hm, e1]
        have : i % 6 = 0 ∨ i % 6 = 1 ∨ i % 6 = 2 ∨ i % 6 = 3 ∨ i % 6 = 4 := by omega
        rcases this with h | h | h | h | h <;> rw [h] <;> rfl
    · rw [if_neg hk2, if_neg (by omega), e1]
  · rw [List.getElem?_eq_none (by rw [List.length_set, ocells_len]; omega), List.getElem?_eq_none (by rw [ocells_len]; simp; omega)]
/-- A list of ops that is the call's own, with the dots of each. -/
structure OwnOps (w : World) (B : Nat) (V : Option Addr) (c : Nat) (zs : List OpAt) : Prop where
  row : Own w B 30 6 V zs.length c (ocells zs)
  seen : ∀ z ∈ zs, Own w B 27 2 z.at_ z.op.seen.length z.cap (dcells z.op.seen)
/-- Midway through the copy. -/
structure OpsMid (w : World) (V : Option Addr) (c : Nat) (ys zs : List OpAt) (k : Nat) (wr : World) : Prop where
  below : Below w.heap.size w wr
  row : Own wr w.heap.size 30 6 V zs.length c (ocells zs)
  len : zs.length = ys.length
  same : zs.map OpAt.op = ys.map OpAt.op
  done : ∀ j (hj : j < zs.length), j < k → Own wr w.heap.size 27 2 zs[j].at_ zs[j].op.seen.length zs[j].cap (dcells zs[j].op.seen)
  todo : ∀ j (hj : j < zs.length) (hj2 : j < ys.length), k ≤ j → zs[j] = ys[j]
theorem OpsMid.step {w wr w3 : World} {g c : Nat} {ys zs : List OpAt} {k : Nat} (h : OpsMid w (some ⟨g, 0, none⟩) c ys zs k wr) (hk : k < ys.length) (hb : Below wr.heap.size wr w3) {V2 : Option Addr} {c2 : Nat} (hk2 : k < zs.length)
    (hO : Own w3 wr.heap.size 27 2 V2 zs[k].op.seen.length c2 (dcells zs[k].op.seen)) :
    OpsMid w (some ⟨g, 0, none⟩) c ys (zs.set k ⟨zs[k].op, V2, c2⟩) (k + 1) (w3.setCell ⟨g, k * 6 + 5, none⟩ (.slice V2 zs[k].op.seen.length c2)) := by
  have hsz := h.below.size
  have hg := h.row.lt g (by simp [ob])
  have hrow3 := h.row.below hb
  have ho : Only [g] w3 (w3.setCell ⟨g, k * 6 + 5, none⟩ (.slice V2 zs[k].op.seen.length c2)) := (Only.refl _ _).setCell (.inl (by simp)) _
  have hbk : ∃ cs, Blk w3 g 30 cs := by
    rcases hrow3.2 with ⟨h2, _⟩ | ⟨g', cap, cur, he, _, hh, _⟩
    · cases h2
    · injection he with he
      injection he with he
      injection he with he
      subst he
      exact ⟨cur, hh⟩
  obtain ⟨cs, hbk⟩ := hbk
  refine ⟨?_, ?_, by simpa using h.len, ?_, ?_, ?_⟩
  · have h1 := h.below.trans (hb.mono hsz)
    exact h1.trans (ho.below h1.size (by simpa using hg.1))
  · have := hrow3.storeN (k := k * 6 + 5) (by omega) (.slice V2 zs[k].op.seen.length c2)
    rw [ocells_set zs k hk2 V2 c2] at this
    simpa using this
  · rw [← h.same, List.map_set]
    apply List.ext_getElem?
    intro i
    rw [List.getElem?_set]
    by_cases hi : k = i
    · subst hi; simp [hk2]
    · rw [if_neg hi]
  · intro j hj hjk
    have hj' : j < zs.length := by simpa using hj
    by_cases hkj : k = j
    · subst hkj
      have e : (zs.set k ⟨zs[k].op, V2, c2⟩)[k] = ⟨zs[k].op, V2, c2⟩ := by simp
      rw [e]
      exact (hO.only ho (fun x hx hm => hO.blk_ne hbk (by decide) (by simp at hm; exact hm ▸ hx))).mono hsz
    · have e : (zs.set k ⟨zs[k].op, V2, c2⟩)[j] = zs[j] := by rw [List.getElem_set, if_neg hkj]
      rw [e]
      have h1 := (h.done j hj' (by omega)).below hb
      exact h1.only ho (fun x hx hm => h1.blk_ne hbk (by decide) (by simp at hm; exact hm ▸ hx))
  · intro j hj hj2 hkj
    have e : (zs.set k ⟨zs[k].op, V2, c2⟩)[j] = zs[j]'(by simpa using hj) := by rw [List.getElem_set, if_neg (by omega)]
    rw [e]
    exact h.todo j (by simpa using hj) hj2 (by omega)
end Go.Proofs.YthfbjfocmnikaaaGreatDoor

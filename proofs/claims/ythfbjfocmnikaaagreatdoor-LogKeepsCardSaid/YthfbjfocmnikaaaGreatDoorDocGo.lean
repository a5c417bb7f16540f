/- 2 texts in one: each says ahead of itself what is proved, and its conditions. -/
import Derived.Test.YthfbjfocmnikaaaGreatDoorDocLaw
/- What a document is depends on which ops were done, not on their order: plain. Conditions: none. -/
namespace Go.Proofs.YthfbjfocmnikaaaGreatDoor
open Go.RowKit
set_option linter.unusedVariables false
def ofWho (i : Int) (l : List LOp) : List LOp := l.filter fun o => decide (o.dot.who = i)
theorem ofWho_add (i : Int) (l m : List LOp) : ofWho i (l ++ m) = ofWho i l ++ ofWho i m := List.filter_append ..
theorem mem_ofWho {i : Int} {l : List LOp} {o : LOp} : o ∈ ofWho i l ↔ o ∈ l ∧ o.dot.who = i := by simp [ofWho]
/-- What the ops that were done say of a document. -/
structure Says (ops : List LOp) (d : LDoc) : Prop where
  good : ∀ o ∈ ops, opErr o = 0
  here : ∀ p, hasAt d.book p = true ↔ ∃ o ∈ ops, (o.what = 1 ∨ o.what = 2) ∧ o.place = p
  letter : ∀ o ∈ ops, o.what = 1 → (old d.book o.place).letter = o.letter
  blank : ∀ p, (old d.book p).letter ≠ 0 → ∃ o ∈ ops, o.what = 1 ∧ o.place = p
  struck : ∀ p, (old d.book p).struck = true ↔ ∃ o ∈ ops, o.what = 2 ∧ o.place = p
  marks : ∀ m, m ∈ d.marks ↔ (∃ o ∈ ops, o.what = 3 ∧ o.place = m.place ∧ o.dot = m.dot) ∧ ¬ ∃ o ∈ ops, o.what = 4 ∧ o.place = m.place ∧ m.dot ∈ o.seen
  joined : ∀ p x, (get (⟨p, x⟩ : JKey) d.joined).getD false = true ↔ ∃ o ∈ ops, o.what = 4 ∧ o.place = p ∧ x ∈ o.seen
  known : ∀ e, dotErr e = 0 → nOf d.known e = ((ofWho e.who ops).length : Int)
theorem Says.new : Says [] LDoc.new where
  good := by simp
  here := fun p => by simp [LDoc.new, hasAt]
  letter := by simp
  blank := fun p h => by simp [LDoc.new, old, hasAt] at h
  struck := fun p => by simp [LDoc.new, old, hasAt]
  marks := by simp [LDoc.new]
  joined := by simp [LDoc.new, get]
  known := fun e he => by
    obtain ⟨k, hk, hw, _⟩ := dot_in he
    have : nOf LDoc.new.known e = 0 := by
      unfold nOf LDoc.new
      rw [hw, show ((k : Int) + 1 - 1).toNat = k by omega]
      simp only
      rcases (show k = 0 ∨ k = 1 ∨ k = 2 ∨ k = 3 ∨ k = 4 ∨ k = 5 ∨ k = 6 ∨ k = 7 by omega) with rfl | rfl | rfl | rfl | rfl | rfl | rfl | rfl <;> rfl
    rw [this]; rfl
theorem insAll_get (p : ByteArray) : ∀ (l : List LDot) (j : List (JKey × Bool)) (q : ByteArray) (x : LDot), (get (⟨q, x⟩ : JKey) (LDoc.insAll p j l)).getD false = true ↔ (q = p ∧ x ∈ l) ∨ (get (⟨q, x⟩ : JKey) j).getD false = true := by
  intro l
  induction l with
  | nil => intro j q x; simp [LDoc.insAll]
  | cons y l ih =>
    intro j q x
    have e : LDoc.insAll p j (y :: l) = LDoc.insAll p (ins ⟨p, y⟩ true j) l := rfl
    rw [e, ih, get_ins]
    by_cases h : (⟨q, x⟩ : JKey) = ⟨p, y⟩
    · rw [if_pos h]
      injection h with h1 h2
      subst h1; subst h2
      simp
    · rw [if_neg h]
      constructor
      · rintro (⟨h1, h2⟩ | h2)
        · exact .inl ⟨h1, by simp [h2]⟩
        · exact .inr h2
      · rintro (⟨h1, h2⟩ | h2)
        · rcases List.mem_cons.1 h2 with h2 | h2
          · exact absurd (by rw [h1, h2]) h
          · exact .inl ⟨h1, h2⟩
        · exact .inr h2
theorem in_add {P : LOp → Prop} {l : List LOp} {o : LOp} : (∃ x ∈ l ++ [o], P x) ↔ (∃ x ∈ l, P x) ∨ P o := by
  constructor
  · rintro ⟨x, hx, hp⟩
    rcases List.mem_append.1 hx with hx | hx
    · exact .inl ⟨x, hx, hp⟩
    · simp at hx; subst hx; exact .inr hp
  · rintro (⟨x, hx, hp⟩ | hp)
    · exact ⟨x, by simp [hx], hp⟩
    · exact ⟨o, by simp, hp⟩
/-- An op more, with its part of the document turned. -/
theorem Says.step {ops : List LOp} {d : LDoc} (h : Says ops d) (hk : d.Ok) {o : LOp} (hp : opErr o = 0) (ha : addErr d.known o.dot = 0) (ht : d.turnE o = 0) {more : List LOp} :
    Says (ops ++ [o]) { d.turn o with known := addRes d.known o.dot, ops := more } := by
  obtain ⟨p1, p2, p3, p4, p5, p6, p7, p8⟩ := op_ok hp
  obtain ⟨a1, a2, a3⟩ := add_ok ha
  have kn : ∀ e, dotErr e = 0 → nOf (addRes d.known o.dot) e = ((ofWho e.who (ops ++ [o])).length : Int) := fun e he => by
    rw [nOf_add a1 a2 he, ofWho_add, List.length_append]
    have h1 := h.known o.dot a2
    by_cases hw : e.who = o.dot.who
    · rw [if_pos hw]
      have e1 : ofWho e.who [o] = [o] := by simp [ofWho, hw]
      rw [e1, hw]
      simp only [List.length_cons, List.length_nil]
      omega
    · rw [if_neg hw, h.known e he]
      have e1 : ofWho e.who [o] = [] := by simp [ofWho]; exact fun h => hw h.symm
      rw [e1]; simp
  have gd : ∀ x ∈ ops ++ [o], opErr x = 0 := fun x hx => by
    rcases List.mem_append.1 hx with hx | hx
    · exact h.good x hx
    · simp at hx; subst hx; exact hp
  have hr := hk.book.rising
  have mr := hk.marks.rising
  unfold LDoc.turnE at ht
  rcases (show o.what = 1 ∨ o.what = 2 ∨ o.what = 3 ∨ o.what = 4 by omega) with hw | hw | hw | hw
  · rw [if_pos hw] at ht
    obtain ⟨_, _, w3, w4, w5⟩ := write_ok ht
    have e : d.turn o = { d with book := upd d.book ((old d.book o.place).write o.letter) } := by
      unfold LDoc.turn
      rw [if_pos hw, if_pos ht, write_upd]
    have ep : ((old d.book o.place).write o.letter).place = o.place := old_place _ _
    have hn1 : ¬ o.what = 2 := by omega
    have hn3 : ¬ o.what = 3 := by omega
    have hn4 : ¬ o.what = 4 := by omega
    rw [e]
    refine ⟨gd, fun p => ?_, fun x hx hx1 => ?_, fun p => ?_, fun p => ?_, fun m => ?_, fun p x => ?_, kn⟩
    · simp only
      rw [hasAt_upd hr, ep, in_add, Bool.or_eq_true, decide_eq_true_iff, h.here p]
      constructor
      · rintro (h1 | h1)
        · exact .inr ⟨.inl hw, h1.symm⟩
        · exact .inl h1
      · rintro (h1 | ⟨_, h1⟩)
        · exact .inr h1
        · exact .inl h1.symm
    · simp only
      rw [old_upd hr, ep]
      rcases List.mem_append.1 hx with hx | hx
      · by_cases hq : x.place = o.place
        · rw [if_pos hq]
          have h1 := h.letter x hx hx1
          rw [hq] at h1
          have h2 := letterB_range ((op_ok (h.good x hx)).2.2.2.1 hx1)
          show o.letter = x.letter
          omega
        · rw [if_neg hq]; exact h.letter x hx hx1
      · simp at hx; subst hx
        rw [if_pos rfl]; rfl
    · simp only
      rw [old_upd hr, ep, in_add]
      by_cases hq : p = o.place
      · exact fun _ => .inr ⟨hw, hq.symm⟩
      · rw [if_neg hq]; exact fun h1 => .inl (h.blank p h1)
    · simp only
      rw [old_upd hr, ep, in_add]
      by_cases hq : p = o.place
      · rw [if_pos hq, hq]
        have h1 := h.struck o.place
        constructor
        · exact fun h2 => .inl (h1.1 h2)
        · rintro (h2 | ⟨h2, _⟩)
          · exact h1.2 h2
          · exact absurd h2 hn1
      · rw [if_neg hq, h.struck p]
        exact ⟨.inl, fun h2 => h2.elim id (fun h3 => absurd h3.1 hn1)⟩
    · simp only
      rw [in_add, in_add, h.marks m]
      simp [hn3, hn4]
    · simp only
      rw [in_add, h.joined p x]
      simp [hn4]
  · have hn1 : ¬ o.what = 1 := by omega
    have hn3 : ¬ o.what = 3 := by omega
    have hn4 : ¬ o.what = 4 := by omega
    rw [if_neg hn1, if_pos hw] at ht
    obtain ⟨_, w2, w3⟩ := strike_ok ht
    have e : d.turn o = { d with book := upd d.book (old d.book o.place).strike } := by
      unfold LDoc.turn
      rw [if_neg hn1, if_pos hw, if_pos ht, strike_upd]
    have ep : (old d.book o.place).strike.place = o.place := old_place _ _
    rw [e]
    refine ⟨gd, fun p => ?_, fun x hx hx1 => ?_, fun p => ?_, fun p => ?_, fun m => ?_, fun p x => ?_, kn⟩
    · simp only
      rw [hasAt_upd hr, ep, in_add, Bool.or_eq_true, decide_eq_true_iff, h.here p]
      constructor
      · rintro (h1 | h1)
        · exact .inr ⟨.inr hw, h1.symm⟩
        · exact .inl h1
      · rintro (h1 | ⟨_, h1⟩)
        · exact .inr h1
        · exact .inl h1.symm
    · simp only
      rw [old_upd hr, ep]
      rcases List.mem_append.1 hx with hx | hx
      · by_cases hq : x.place = o.place
        · rw [if_pos hq]
          have h1 := h.letter x hx hx1
          rw [hq] at h1
          exact h1
        · rw [if_neg hq]; exact h.letter x hx hx1
      · simp at hx; subst hx
        exact absurd hx1 hn1
    · simp only
      rw [old_upd hr, ep, in_add]
      by_cases hq : p = o.place
      · rw [if_pos hq, hq]
        exact fun h1 => .inl (h.blank o.place h1)
      · rw [if_neg hq]; exact fun h1 => .inl (h.blank p h1)
    · simp only
      rw [old_upd hr, ep, in_add]
      by_cases hq : p = o.place
      · rw [if_pos hq]
        exact ⟨fun _ => .inr ⟨hw, hq.symm⟩, fun _ => rfl⟩
      · rw [if_neg hq, h.struck p]
        exact ⟨.inl, fun h2 => h2.elim id (fun h3 => absurd h3.2.symm hq)⟩
    · simp only
      rw [in_add, in_add, h.marks m]
      simp [hn3, hn4]
    · simp only
      rw [in_add, h.joined p x]
      simp [hn4]
  · have hn1 : ¬ o.what = 1 := by omega
    have hn2 : ¬ o.what = 2 := by omega
    have hn4 : ¬ o.what = 4 := by omega
    have hbk : ¬ (o.what = 1 ∨ o.what = 2) := by omega
    rw [if_neg hn1, if_neg hn2, if_pos hw] at ht
    have e : d.turn o = d.cut o := by
      unfold LDoc.turn
      rw [if_neg hn1, if_neg hn2, if_pos hw]
    have key : (d.cut o).book = d.book ∧ (d.cut o).joined = d.joined ∧ ∀ m, m ∈ (d.cut o).marks ↔ m ∈ d.marks ∨ (d.gone o = false ∧ m = ⟨o.place, o.dot⟩) := by
      unfold LDoc.cut
      unfold LDoc.cutE at ht
      by_cases hg : d.gone o = true
      · rw [if_pos hg]
        exact ⟨rfl, rfl, fun m => by simp [hg]⟩
      · rw [if_neg hg] at ht
        rw [if_neg hg, if_pos ht]
        have hg : d.gone o = false := by simpa using hg
        exact ⟨rfl, rfl, fun m => by simp only; rw [mem_cut mr]; simp [hg]⟩
    obtain ⟨k1, k2, k3⟩ := key
    have hgone : d.gone o = true ↔ ∃ x ∈ ops, x.what = 4 ∧ x.place = o.place ∧ o.dot ∈ x.seen := h.joined o.place o.dot
    rw [e]
    refine ⟨gd, fun p => ?_, fun x hx hx1 => ?_, fun p => ?_, fun p => ?_, fun m => ?_, fun p x => ?_, kn⟩
    · simp only
      rw [k1, in_add, h.here p]
      simp [hbk]
    · simp only
      rw [k1]
      rcases List.mem_append.1 hx with hx | hx
      · exact h.letter x hx hx1
      · simp at hx; subst hx
        exact absurd hx1 hn1
    · simp only
      rw [k1, in_add]
      exact fun h1 => .inl (h.blank p h1)
    · simp only
      rw [k1, in_add, h.struck p]
      simp [hn2]
    · simp only
      rw [k3, in_add, in_add, h.marks m]
      constructor
      · rintro (⟨h1, h2⟩ | ⟨h1, rfl⟩)
        · exact ⟨.inl h1, fun h3 => h3.elim h2 (fun h4 => hn4 h4.1)⟩
        · refine ⟨.inr ⟨hw, rfl, rfl⟩, ?_⟩
          rintro (h3 | h3)
          · rw [hgone.2 h3] at h1; cases h1
          · exact hn4 h3.1
      · rintro ⟨h1 | ⟨_, h1, h4⟩, h2⟩
        · exact .inl ⟨h1, fun h3 => h2 (.inl h3)⟩
        · refine .inr ⟨?_, ?_⟩
          · cases hg : d.gone o with
            | false => rfl
            | true =>
              obtain ⟨x, x1, x2, x3, x4⟩ := hgone.1 hg
              exact absurd (.inl ⟨x, x1, x2, x3.trans h1, h4 ▸ x4⟩) h2
          · obtain ⟨mp, md⟩ := m
            simp only at h1 h4
            rw [h1, h4]
    · simp only
      rw [k2, in_add, h.joined p x]
      simp [hn4]
  · have hn1 : ¬ o.what = 1 := by omega
    have hn2 : ¬ o.what = 2 := by omega
    have hn3 : ¬ o.what = 3 := by omega
    have hbk : ¬ (o.what = 1 ∨ o.what = 2) := by omega
    rw [if_neg hn1, if_neg hn2, if_neg hn3, if_pos hw] at ht
    have e : d.turn o = { d with marks := joinRes d.marks o.place o.seen, joined := LDoc.insAll o.place d.joined o.seen } := by
      unfold LDoc.turn LDoc.join
      rw [if_neg hn1, if_neg hn2, if_neg hn3, if_pos hw, if_pos ht]
    rw [e]
    refine ⟨gd, fun p => ?_, fun x hx hx1 => ?_, fun p => ?_, fun p => ?_, fun m => ?_, fun p x => ?_, kn⟩
    · simp only
      rw [in_add, h.here p]
      simp [hbk]
    · simp only
      rcases List.mem_append.1 hx with hx | hx
      · exact h.letter x hx hx1
      · simp at hx; subst hx
        exact absurd hx1 hn1
    · simp only
      rw [in_add]
      exact fun h1 => .inl (h.blank p h1)
    · simp only
      rw [in_add, h.struck p]
      simp [hn2]
    · simp only
      rw [in_add, in_add]
      unfold joinRes
      rw [List.mem_filter, h.marks m]
      have hj : Go.Proofs.YthfbjfocmnikaaaGreatDoor.joined o.place o.seen m = true ↔ m.place = o.place ∧ m.dot ∈ o.seen := by unfold Go.Proofs.YthfbjfocmnikaaaGreatDoor.joined; rw [Bool.and_eq_true, decide_eq_true_iff, inD_iff]
      constructor
      · rintro ⟨⟨h1, h2⟩, h3⟩
        refine ⟨.inl h1, ?_⟩
        rintro (h4 | ⟨_, h4, h5⟩)
        · exact h2 h4
        · rw [hj.2 ⟨h4.symm, h5⟩] at h3; cases h3
      · rintro ⟨h1 | h1, h2⟩
        · refine ⟨⟨h1, fun h4 => h2 (.inl h4)⟩, ?_⟩
          cases hh : Go.Proofs.YthfbjfocmnikaaaGreatDoor.joined o.place o.seen m with
          | false => rfl
          | true => exact absurd (.inr ⟨hw, (hj.1 hh).1.symm, (hj.1 hh).2⟩) h2
        · exact absurd h1.1 hn3
    · simp only
      rw [in_add, insAll_get, h.joined p x]
      constructor
      · rintro (⟨h1, h2⟩ | h1)
        · exact .inr ⟨hw, h1.symm, h2⟩
        · exact .inl h1
      · rintro (h1 | ⟨_, h1, h2⟩)
        · exact .inr h1
        · exact .inl ⟨h1.symm, h2⟩
/-- One document, whichever way its ops came. -/
theorem Says.same {a b : List LOp} {d e : LDoc} (h : Says a d) (k : Says b e) (hd : d.Ok) (he : e.Ok) (hs : ∀ i, ofWho i a = ofWho i b) : d.book = e.book ∧ d.marks = e.marks ∧ d.known = e.known := by
  have hm : ∀ o, o ∈ a ↔ o ∈ b := fun o => by
    have h1 : o ∈ ofWho o.dot.who a ↔ o ∈ ofWho o.dot.who b := by rw [hs]
    rw [mem_ofWho, mem_ofWho] at h1
    simpa using h1
  have hex : ∀ P : LOp → Prop, (∃ o ∈ a, P o) ↔ ∃ o ∈ b, P o := fun P => by simp only [hm]
  have hat : ∀ p, hasAt d.book p = hasAt e.book p := fun p => by
    rw [Bool.eq_iff_iff, h.here p, k.here p]; exact hex _
  have hold : ∀ p, old d.book p = old e.book p := fun p => by
    have e1 := old_place d.book p
    have e2 := old_place e.book p
    have e3 : (old d.book p).struck = (old e.book p).struck := by rw [Bool.eq_iff_iff, h.struck p, k.struck p]; exact hex _
    have e4 : (old d.book p).letter = (old e.book p).letter := by
      by_cases hl : (old d.book p).letter = 0
      · by_cases hl2 : (old e.book p).letter = 0
        · rw [hl, hl2]
        · obtain ⟨o, o1, o2, rfl⟩ := k.blank p hl2
          rw [k.letter o o1 o2, h.letter o ((hm o).2 o1) o2]
      · obtain ⟨o, o1, o2, rfl⟩ := h.blank p hl
        rw [h.letter o o1 o2, k.letter o ((hm o).1 o1) o2]
    cases hx : old d.book p with
    | mk x1 x2 x3 =>
      cases hy : old e.book p with
      | mk y1 y2 y3 =>
        rw [hx] at e1 e3 e4
        rw [hy] at e2 e3 e4
        simp only at e1 e2 e3 e4
        rw [e1, e2, e3, e4]
  have half : ∀ {u v : List LLeaf}, Rising u → Rising v → (∀ p, hasAt u p = hasAt v p) → (∀ p, old u p = old v p) → ∀ x ∈ u, x ∈ v := fun {u v} hu hv h1 h2 x hx => by
    have h3 : hasAt u x.place = true := (hasAt_iff hu _).2 ⟨x, hx, rfl⟩
    have h4 : hasAt v x.place = true := by rw [← h1]; exact h3
    have h5 := (leafAt_mem h4).1
    have h6 : leafAt v x.place = x := by
      have := h2 x.place
      rw [old_mem hu hx] at this
      unfold old at this
      rw [if_pos h4] at this
      exact this.symm
    rw [h6] at h5; exact h5
  refine ⟨rising_ext hd.book.rising he.book.rising fun x => ⟨half hd.book.rising he.book.rising hat hold x, half he.book.rising hd.book.rising (fun p => (hat p).symm) (fun p => (hold p).symm) x⟩, mrising_ext hd.marks.rising he.marks.rising fun m => ?_, ?_⟩
  · rw [h.marks m, k.marks m, hex, hex]
  · obtain ⟨v1, _⟩ := vec_ok hd.known
    obtain ⟨v2, _⟩ := vec_ok he.known
    refine List.ext_getElem (by rw [v1, v2]) fun i h1 h2 => ?_
    have hg : dotErr ⟨(i : Int) + 1, 1⟩ = 0 := by unfold dotErr; rw [if_pos]; simp only; omega
    have n1 := h.known _ hg
    have n2 := k.known _ hg
    rw [nOf_at h1] at n1
    rw [nOf_at h2] at n2
    rw [n1, n2, hs]
end Go.Proofs.YthfbjfocmnikaaaGreatDoor
/- Ops that one document took are taken by another in any order that keeps each author's: plain. Conditions: none. -/
namespace Go.Proofs.YthfbjfocmnikaaaGreatDoor
open Go.RowKit
set_option linter.unusedVariables false
def Numbered (l : List LOp) : Prop := ∀ (i : Int) (k : Nat) (o : LOp), (ofWho i l)[k]? = some o → o.dot.n = (k : Int) + 1
theorem Numbered.nil : Numbered [] := fun i k o h => by simp [ofWho] at h
namespace LDoc
theorem apply_says {d : LDoc} (hk : d.Ok) (h : Says d.ops d) (o : LOp) : Says (d.apply o).ops (d.apply o) := by
  unfold apply
  split
  · rename_i hb
    obtain ⟨h1, h2, h3, h4, h5⟩ := applyB_ok hk hb
    exact h.step hk h1 h2 h4
  · exact h
theorem apply_numbered {d : LDoc} (hk : d.Ok) (h : Says d.ops d) (hn : Numbered d.ops) (o : LOp) : Numbered (d.apply o).ops := by
  unfold apply
  split
  · rename_i hb
    obtain ⟨h1, h2, h3, h4, h5⟩ := applyB_ok hk hb
    obtain ⟨a1, a2, a3⟩ := add_ok h2
    have h6 := h.known o.dot a2
    intro i k x hx
    simp only at hx
    rw [ofWho_add] at hx
    rcases Nat.lt_or_ge k (ofWho i d.ops).length with hl | hl
    · rw [List.getElem?_append_left hl] at hx
      exact hn i k x hx
    · rw [List.getElem?_append_right hl] at hx
      by_cases hw : o.dot.who = i
      · have e1 : ofWho i [o] = [o] := by simp [ofWho, hw]
        rw [e1] at hx
        have hk0 : k - (ofWho i d.ops).length = 0 := by
          rcases Nat.eq_zero_or_pos (k - (ofWho i d.ops).length) with h7 | h7
          · exact h7
          · rw [List.getElem?_eq_none (by simp; omega)] at hx; cases hx
        rw [hk0] at hx
        simp at hx
        subst hx
        rw [hw] at h6
        omega
      · have e1 : ofWho i [o] = [] := by simp [ofWho, hw]
        rw [e1] at hx
        simp at hx
  · exact hn
/-- What may go wrong when an op is done that is the next of its author. -/
theorem turnE_few {d : LDoc} (hk : d.Ok) {o : LOp} (hp : opErr o = 0) : d.turnE o = 0 ∨ d.turnE o = 7 ∨ d.turnE o = 4 := by
  obtain ⟨p1, p2, p3, p4, p5, p6, p7, p8⟩ := op_ok hp
  have hb := bookErr_zero hk.book
  have hm := marks_zero hk.marks
  have hr : bookReady d.book o.place = 0 := by unfold bookReady; rw [if_neg (by omega)]; exact p3
  have hput : putErr d.book = 0 ∨ putErr d.book = 4 := by unfold putErr; split <;> simp
  have hme : markErr ⟨o.place, o.dot⟩ = 0 := by unfold markErr; simp only; rw [if_neg (by omega)]; exact p1
  unfold turnE
  rcases (show o.what = 1 ∨ o.what = 2 ∨ o.what = 3 ∨ o.what = 4 by omega) with hw | hw | hw | hw
  · rw [if_pos hw]
    unfold writeErr
    rw [if_neg (by omega), if_neg (by rw [p4 hw]; decide)]
    split
    · rcases hput with h | h <;> simp [h]
    split
    · exact .inr (.inl rfl)
    · exact .inl rfl
  · rw [if_neg (by omega), if_pos hw]
    unfold strikeErr
    rw [if_neg (by omega)]
    split
    · rcases hput with h | h <;> simp [h]
    · exact .inl rfl
  · rw [if_neg (by omega), if_neg (by omega), if_pos hw]
    unfold cutE
    split
    · exact .inl rfl
    · unfold cutErr
      rw [if_neg (by omega), if_neg (by omega)]
      split
      · exact .inl rfl
      split
      · exact .inr (.inr rfl)
      · exact .inl rfl
  · rw [if_neg (by omega), if_neg (by omega), if_neg (by omega), if_pos hw]
    unfold joinE joinErr
    rw [if_neg (by omega), if_neg (by omega), if_neg (by omega)]
    exact .inl p8
/-- The next op of an author. -/
theorem next {d : LDoc} (hk : d.Ok) (h : Says d.ops d) {done pre post : List LOp} {o : LOp} (hn : Numbered done) (hg : ∀ x ∈ done, opErr x = 0)
    (hl : d.ops.length < 400) (hs : ∀ i, ofWho i (d.ops ++ (pre ++ o :: post)) = ofWho i done) (hf : ∀ x ∈ pre, x.dot.who ≠ o.dot.who) :
    (d.applyE o = 0 ∨ d.applyE o = 7 ∨ d.applyE o = 4) ∧ (d.applyE o = 0 → d.applyB o = true ∧ (d.apply o).ops = d.ops ++ [o] ∧ ∀ i, ofWho i ((d.apply o).ops ++ (pre ++ post)) = ofWho i done) := by
  have hpre : ofWho o.dot.who pre = [] := by
    unfold ofWho
    rw [List.filter_eq_nil_iff]
    intro x hx
    simpa using hf x hx
  have hat : (ofWho o.dot.who done)[(ofWho o.dot.who d.ops).length]? = some o := by
    rw [← hs, ofWho_add, ofWho_add, hpre, List.nil_append, List.getElem?_append_right (Nat.le_refl _), Nat.sub_self]
    simp [ofWho]
  have hnum := hn _ _ _ hat
  have hp : opErr o = 0 := hg o (mem_ofWho.1 (List.mem_of_getElem? hat)).1
  obtain ⟨p1, p2, _⟩ := op_ok hp
  have h6 := h.known o.dot p1
  have hv : vdErr d.known o.dot = 0 := by unfold vdErr; rw [if_neg (fun h => h hk.known)]; exact p1
  have hh : hasRes d.known o.dot = false := by
    unfold hasRes
    rw [Bool.and_eq_false_iff]
    exact .inr (decide_eq_false (by omega))
  have ha : addErr d.known o.dot = 0 := by
    unfold addErr
    rw [if_neg (by omega), if_neg (by omega), if_neg (by omega)]
  have e1 : d.applyE o = d.turnE o := by
    unfold applyE
    rw [if_neg (by omega), if_neg (by omega), if_neg (by rw [hh]; decide), if_neg (by omega), if_neg (by omega)]
  refine ⟨by rw [e1]; exact turnE_few hk hp, fun h0 => ?_⟩
  have e2 : d.applyB o = true := by unfold applyB; rw [hh, decide_eq_true h0]; simp
  have e3 : (d.apply o).ops = d.ops ++ [o] := by unfold apply; rw [if_pos e2]
  refine ⟨e2, e3, fun i => ?_⟩
  rw [e3, ← hs i, ofWho_add, ofWho_add, ofWho_add, ofWho_add, ofWho_add, show o :: post = [o] ++ post from rfl, ofWho_add]
  by_cases hw : o.dot.who = i
  · subst hw
    rw [hpre]; simp
  · have e4 : ofWho i [o] = [] := by simp [ofWho, hw]
    rw [e4]; simp
end LDoc
end Go.Proofs.YthfbjfocmnikaaaGreatDoor

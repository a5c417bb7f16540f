/- 12 texts in one: each says ahead of itself what is proved, and its conditions. -/
import Derived.Deep.CutBlock
import Derived.Deep.RegionHeld
import Derived.Test.YthfbjfocmnikaaaGreatDoorDocApply
import Derived.Test.YthfbjfocmnikaaaGreatDoorEditLaw
import Derived.Test.YthfbjfocmnikaaaGreatDoorHi
import Derived.Test.YthfbjfocmnikaaaGreatDoorNetSame
import Derived.Test.YthfbjfocmnikaaaGreatDoorNetScene
import Derived.Test.YthfbjfocmnikaaaGreatDoorNetSpec
import Derived.Test.YthfbjfocmnikaaaGreatDoorNthSeen
import Derived.Test.YthfbjfocmnikaaaGreatDoorRefPlace
import Derived.Test.YthfbjfocmnikaaaGreatDoorSameLeafs
import Derived.Test.YthfbjfocmnikaaaGreatDoorSmall
/- All the ops of a net, whoever has them: what a document makes of them when they come. Plain. Conditions: none. -/
namespace Go.Proofs.YthfbjfocmnikaaaGreatDoor
open Go.RowKit
set_option linter.unusedVariables false
/-- The author of a place. -/
def authorOf (p : ByteArray) : Int := ((byteAt p (p.size - 1) - 97 : Nat) : Int)
/-- All ops that were ever done: each dot once; a letter of each place that is written. -/
structure Univ (U : List LOp) (n : Nat) : Prop where
  agree : ∀ x ∈ U, ∀ y ∈ U, x.dot = y.dot → x = y
  write : ∀ x ∈ U, x.what = 1 → authorOf x.place = x.dot.who
  letter : ∀ x ∈ U, ∀ y ∈ U, x.what = 1 → y.what = 1 → x.place = y.place → x.letter = y.letter
  good : ∀ x ∈ U, opErr x = 0
  who : ∀ x ∈ U, x.dot.who ≤ (n : Int)
/-- A document that has some of them. -/
structure Part (U : List LOp) (d : LDoc) : Prop where
  ok : d.Ok
  says : Says d.ops d
  num : Numbered d.ops
  sub : ∀ o ∈ d.ops, o ∈ U
/-- Ops that stand one behind the other, of each author from s on. -/
def Runs (l : List LOp) (s : Int → Nat) : Prop := ∀ (i : Int) (k : Nat) (o : LOp), (ofWho i l)[k]? = some o → o.dot.n = (s i : Int) + k + 1
def cnt (d : LDoc) (i : Int) : Nat := (ofWho i d.ops).length
theorem Part.more {U V : List LOp} {d : LDoc} (h : Part U d) (hs : ∀ o ∈ U, o ∈ V) : Part V d := ⟨h.ok, h.says, h.num, fun o ho => hs o (h.sub o ho)⟩
theorem Part.new (U : List LOp) : Part U LDoc.new := ⟨LDoc.new_ok, Says.new, Numbered.nil, fun o ho => by simp [LDoc.new] at ho⟩
theorem Part.known {U : List LOp} {d : LDoc} (h : Part U d) {o : LOp} (ho : opErr o = 0) : nOf d.known o.dot = (cnt d o.dot.who : Int) := h.says.known _ (op_ok ho).1
theorem clash_none {U : List LOp} {n : Nat} {d : LDoc} {o : LOp} (hU : Univ U n) (hd : Part U d) (ho : o ∈ U) : d.turnE o ≠ 7 := by
  have hp := hU.good o ho
  obtain ⟨p1, p2, p3, p4, p5, p6, p7, p8⟩ := op_ok hp
  have hb := bookErr_zero hd.ok.book
  have hm := marks_zero hd.ok.marks
  have hr : bookReady d.book o.place = 0 := by unfold bookReady; rw [if_neg (by omega)]; exact p3
  have hput : putErr d.book ≠ 7 := by unfold putErr; split <;> simp
  have hme : markErr ⟨o.place, o.dot⟩ = 0 := by unfold markErr; simp only; rw [if_neg (by omega)]; exact p1
  unfold LDoc.turnE
  rcases (show o.what = 1 ∨ o.what = 2 ∨ o.what = 3 ∨ o.what = 4 by omega) with hw | hw | hw | hw
  · rw [if_pos hw]
    unfold writeErr
    rw [if_neg (by omega), if_neg (by rw [p4 hw]; decide)]
    split
    · exact hput
    rename_i hat
    have hat : hasAt d.book o.place = true := by simpa using hat
    split
    · rename_i hl
      exfalso
      have ho2 : old d.book o.place = leafAt d.book o.place := if_pos hat
      obtain ⟨x, hx, hx1, hx2⟩ := hd.says.blank o.place (by rw [ho2]; exact hl.1)
      have h3 := hd.says.letter x hx hx1
      rw [hx2, ho2] at h3
      exact hl.2 (h3.trans (hU.letter x (hd.sub x hx) o ho hx1 hw hx2))
    · decide
  · rw [if_neg (by omega), if_pos hw]
    unfold strikeErr
    rw [if_neg (by omega)]
    split
    · exact hput
    · decide
  · rw [if_neg (by omega), if_neg (by omega), if_pos hw]
    unfold LDoc.cutE
    split
    · decide
    · unfold cutErr
      rw [if_neg (by omega), if_neg (by omega)]
      split
      · decide
      split
      · decide
      · decide
  · rw [if_neg (by omega), if_neg (by omega), if_neg (by omega), if_pos hw]
    unfold LDoc.joinE joinErr
    rw [if_neg (by omega), if_neg (by omega), if_neg (by omega), p8]
    decide
/-- An op that is not too far comes. -/
theorem apply_part {U : List LOp} {n : Nat} {d : LDoc} {o : LOp} (hU : Univ U n) (hd : Part U d) (ho : o ∈ U) (hn : o.dot.n ≤ (cnt d o.dot.who : Int) + 1) :
    (d.applyE o = 0 ∨ d.applyE o = 4) ∧ Part U (d.apply o) ∧ (∀ i, cnt d i ≤ cnt (d.apply o) i) ∧ (d.applyE o = 0 → o.dot.n ≤ (cnt (d.apply o) o.dot.who : Int)) ∧ (∀ x ∈ d.ops, x ∈ (d.apply o).ops) := by
  have hp := hU.good o ho
  have p1 := (op_ok hp).1
  have h6 := hd.known hp
  have hv : vdErr d.known o.dot = 0 := by unfold vdErr; rw [if_neg (fun h => h hd.ok.known)]; exact p1
  have hE : d.applyE o = 0 ∨ d.applyE o = 4 := by
    unfold LDoc.applyE
    rw [if_neg (by omega), if_neg (by omega)]
    by_cases hh : hasRes d.known o.dot = true
    · rw [if_pos hh]; exact .inl rfl
    rw [if_neg hh]
    have hlt : nOf d.known o.dot < o.dot.n := by
      have hh : hasRes d.known o.dot = false := by simpa using hh
      unfold hasRes at hh
      rw [hv] at hh
      simp at hh
      omega
    have ha : addErr d.known o.dot = 0 := by
      unfold addErr
      rw [if_neg (by omega), if_neg (by omega), if_neg (by omega)]
    rw [if_neg (by omega)]
    split
    · exact .inr rfl
    · rcases LDoc.turnE_few hd.ok hp with h | h | h
      · exact .inl h
      · exact absurd h (clash_none hU hd ho)
      · exact .inr h
  have hP : Part U (d.apply o) := by
    refine ⟨LDoc.apply_ok hd.ok o, LDoc.apply_says hd.ok hd.says o, LDoc.apply_numbered hd.ok hd.says hd.num o, fun x hx => ?_⟩
    rcases LDoc.apply_three (d := d) o with ⟨_, _, q⟩ | ⟨_, _, q⟩ | ⟨_, _, q⟩
    · rw [q] at hx
      rcases List.mem_append.1 hx with hx | hx
      · exact hd.sub x hx
      · simp at hx; subst hx; exact ho
    · rw [q] at hx; exact hd.sub x hx
    · rw [q] at hx; exact hd.sub x hx
  refine ⟨hE, hP, fun i => ?_, fun h0 => ?_, fun x hx => ?_⟩
  · unfold cnt
    rcases LDoc.apply_three (d := d) o with ⟨_, _, q⟩ | ⟨_, _, q⟩ | ⟨_, _, q⟩
    · rw [q, ofWho_add, List.length_append]; omega
    · rw [q]; omega
    · rw [q]; omega
  · rcases Int.lt_or_le (nOf d.known o.dot) o.dot.n with hlt | hle
    · obtain ⟨q1, q2, q3, q4, q5⟩ := LDoc.apply_new hd.ok h0 (by omega)
      have e : (d.apply o).ops = d.ops ++ [o] := by rw [q5]
      unfold cnt at hn ⊢
      rw [e, ofWho_add, List.length_append]
      have : ofWho o.dot.who [o] = [o] := by simp [ofWho]
      rw [this]
      simp only [List.length_cons, List.length_nil]
      push_cast
      omega
    · have hh : hasRes d.known o.dot = true := by unfold hasRes; rw [hv]; simp; omega
      have hB : d.applyB o = false := by unfold LDoc.applyB; rw [hh, hp]; simp
      have e : d.apply o = d := by unfold LDoc.apply; rw [hB]; simp
      rw [e]; omega
  · rcases LDoc.apply_three (d := d) o with ⟨_, _, q⟩ | ⟨_, _, q⟩ | ⟨_, _, q⟩
    · rw [q]; simp [hx]
    · rw [q]; exact hx
    · rw [q]; exact hx
/-- Ops one behind the other come. -/
theorem run_do {U : List LOp} {n : Nat} (hU : Univ U n) : ∀ (l : List LOp) (d : LDoc) (s : Int → Nat), Part U d → (∀ o ∈ l, o ∈ U) → Runs l s → (∀ i, s i ≤ cnt d i) →
    (d.doE l = 0 ∨ d.doE l = 4) ∧ Part U (d.doR l) ∧ (∀ i, cnt d i ≤ cnt (d.doR l) i) ∧ (d.doE l = 0 → ∀ i, s i + (ofWho i l).length ≤ cnt (d.doR l) i) ∧ (∀ x ∈ d.ops, x ∈ (d.doR l).ops)
  | [], d, s => fun hd _ _ hs => ⟨.inl rfl, hd, fun i => Nat.le_refl _, fun _ i => by show s i + 0 ≤ _; exact hs i, fun x hx => hx⟩
  | o :: t, d, s => fun hd hl hr hs => by
    have h0 := hr o.dot.who 0 o (by simp [ofWho])
    obtain ⟨a1, a2, a3, a4, a5⟩ := apply_part hU hd (hl o (by simp)) (by have := hs o.dot.who; omega)
    unfold LDoc.doE LDoc.doR
    by_cases he : d.applyE o ≠ 0
    · rw [if_pos he, if_pos he]
      exact ⟨.inr (by omega), hd, fun i => Nat.le_refl _, fun h => absurd h he, fun x hx => hx⟩
    · rw [if_neg he, if_neg he]
      have he0 : d.applyE o = 0 := by omega
      have hs2 : ∀ i, (if i = o.dot.who then s i + 1 else s i) ≤ cnt (d.apply o) i := fun i => by
        by_cases hi : i = o.dot.who
        · rw [if_pos hi]; subst hi
          have := a4 he0
          omega
        · rw [if_neg hi]; have := a3 i; have := hs i; omega
      have hr2 : Runs t (fun i => if i = o.dot.who then s i + 1 else s i) := fun i k x hx => by
        by_cases hi : i = o.dot.who
        · have e : ofWho i (o :: t) = o :: ofWho i t := by simp [ofWho, hi]
          have := hr i (k + 1) x (by rw [e]; simpa using hx)
          simp only [if_pos hi]
          push_cast at this ⊢
          omega
        · have e : ofWho i (o :: t) = ofWho i t := by
            unfold ofWho
            rw [List.filter_cons_of_neg (by simp; exact fun h => hi h.symm)]
          have := hr i k x (by rw [e]; exact hx)
          simp only [if_neg hi]
          omega
      obtain ⟨b1, b2, b3, b4, b5⟩ := run_do hU t (d.apply o) _ a2 (fun x hx => hl x (by simp [hx])) hr2 hs2
      refine ⟨b1, b2, fun i => Nat.le_trans (a3 i) (b3 i), fun h i => ?_, fun x hx => b5 x (a5 x hx)⟩
      have := b4 h i
      by_cases hi : i = o.dot.who
      · have e : ofWho i (o :: t) = o :: ofWho i t := by simp [ofWho, hi]
        simp only [if_pos hi] at this
        rw [e, List.length_cons]; omega
      · have e : ofWho i (o :: t) = ofWho i t := by
          unfold ofWho
          rw [List.filter_cons_of_neg (by simp; exact fun h => hi h.symm)]
        simp only [if_neg hi] at this
        rw [e]; exact this
/-- What one lacks of another one. -/
theorem lacks_runs {U : List LOp} {n : Nat} {a b : LDoc} (hU : Univ U n) (ha : Part U a) (hb : Part U b) : Runs (lacksR a.ops b.known) (cnt b) ∧ (∀ o ∈ lacksR a.ops b.known, o ∈ U) ∧ ∀ i, cnt a i ≤ cnt b i + (ofWho i (lacksR a.ops b.known)).length := by
  have hgood : ∀ i, (∃ o ∈ a.ops, o.dot.who = i) → dotErr ⟨i, 1⟩ = 0 := fun i ⟨o, ho, hi⟩ => by
    have h2 := (op_ok (hU.good o (ha.sub o ho))).1
    subst hi
    unfold dotErr at h2 ⊢
    split at h2
    · rw [if_pos]; simp only; omega
    · omega
  refine ⟨fun i k o ho => ?_, fun o ho => ha.sub o (List.mem_filter.1 ho).1, fun i => ?_⟩
  · obtain ⟨m1, m2⟩ := mem_ofWho.1 (List.mem_of_getElem? ho)
    have hi := hgood i ⟨o, (List.mem_filter.1 m1).1, m2⟩
    rw [numbered_known hb.ok hb.says ha.num i hi, List.getElem?_drop] at ho
    have := ha.num i _ o ho
    unfold cnt
    push_cast at this
    omega
  · unfold cnt
    rcases Nat.eq_zero_or_pos (ofWho i a.ops).length with h | h
    · omega
    · obtain ⟨o, ho⟩ := List.exists_mem_of_length_pos h
      obtain ⟨m1, m2⟩ := mem_ofWho.1 ho
      rw [numbered_known hb.ok hb.says ha.num i (hgood i ⟨o, m1, m2⟩), List.length_drop]
      omega
/-- An op of one's own, done. -/
theorem own_step {U : List LOp} {n : Nat} {d : LDoc} {o : LOp} {who : Int} (hU : Univ U n) (hd : Part U d) (hw : who ≤ (n : Int)) (hown : ∀ x ∈ U, x.dot.who = who → x ∈ d.ops)
    (hwho : o.dot.who = who) (hn : o.dot.n = (cnt d who : Int) + 1) (hf : o.what = 1 → authorOf o.place = who ∧ hasAt d.book o.place = false) (he : d.applyE o = 0) :
    Univ (U ++ [o]) n ∧ Part (U ++ [o]) (d.apply o) ∧ (∀ x ∈ U ++ [o], x.dot.who = who → x ∈ (d.apply o).ops) ∧ cnt (d.apply o) who = cnt d who + 1 ∧ (d.apply o).ops = d.ops ++ [o] := by
  have hp : opErr o = 0 := by
    by_cases h : opErr o = 0
    · exact h
    · have : d.applyE o = opErr o := by unfold LDoc.applyE; rw [if_pos h]
      omega
  have h6 := hd.known hp
  obtain ⟨q1, q2, q3, q4, q5⟩ := LDoc.apply_new hd.ok he (by rw [h6, hwho]; omega)
  have e : (d.apply o).ops = d.ops ++ [o] := by rw [q5]
  have hnew : ∀ x ∈ U, x.dot ≠ o.dot := fun x hx hxo => by
    have h1 := hown x hx (by rw [hxo]; exact hwho)
    obtain ⟨k, hk⟩ := List.mem_iff_getElem?.1 (mem_ofWho.2 ⟨h1, (by rw [hxo]; exact hwho : x.dot.who = who)⟩)
    have h2 := hd.num who k x hk
    have h3 : k < (ofWho who d.ops).length := by
      rcases Nat.lt_or_ge k (ofWho who d.ops).length with h | h
      · exact h
      · rw [List.getElem?_eq_none h] at hk; cases hk
    rw [hxo] at h2
    unfold cnt at hn
    omega
  have hplace : o.what = 1 → ∀ x ∈ U, x.what = 1 → x.place ≠ o.place := fun h1 x hx hx1 hxp => by
    obtain ⟨f1, f2⟩ := hf h1
    have := hU.write x hx hx1
    have hm := hown x hx (by rw [← this, hxp, f1])
    have := (hd.says.here o.place).2 ⟨x, hm, .inl hx1, hxp⟩
    rw [f2] at this; cases this
  refine ⟨⟨?_, ?_, ?_, ?_, ?_⟩, ⟨LDoc.apply_ok hd.ok o, LDoc.apply_says hd.ok hd.says o, LDoc.apply_numbered hd.ok hd.says hd.num o, ?_⟩, ?_, ?_, e⟩
  · intro x hx y hy hxy
    rcases List.mem_append.1 hx with gx | gx <;> rcases List.mem_append.1 hy with gy | gy
    · exact hU.agree x gx y gy hxy
    · simp at gy; subst gy; exact absurd hxy (hnew x gx)
    · simp at gx; subst gx; exact absurd hxy.symm (hnew y gy)
    · simp at gx gy; subst gx; subst gy; rfl
  · intro x hx h1
    rcases List.mem_append.1 hx with hx | hx
    · exact hU.write x hx h1
    · simp at hx; subst hx; rw [hwho]; exact (hf h1).1
  · intro x hx y hy hx1 hy1 hxy
    rcases List.mem_append.1 hx with gx | gx <;> rcases List.mem_append.1 hy with gy | gy
    · exact hU.letter x gx y gy hx1 hy1 hxy
    · simp at gy; subst gy; exact absurd hxy (hplace hy1 x gx hx1)
    · simp at gx; subst gx; exact absurd hxy.symm (hplace hx1 y gy hy1)
    · simp at gx gy; subst gx; subst gy; rfl
  · intro x hx
    rcases List.mem_append.1 hx with hx | hx
    · exact hU.good x hx
    · simp at hx; subst hx; exact hp
  · intro x hx
    rcases List.mem_append.1 hx with hx | hx
    · exact hU.who x hx
    · simp at hx; subst hx; omega
  · intro x hx
    rw [e] at hx
    rcases List.mem_append.1 hx with hx | hx
    · simp [hd.sub x hx]
    · simp [hx]
  · intro x hx hxw
    rw [e]
    rcases List.mem_append.1 hx with hx | hx
    · simp [hown x hx hxw]
    · simp [hx]
  · unfold cnt
    rw [e, ofWho_add, List.length_append]
    have : ofWho who [o] = [o] := by simp [ofWho, hwho]
    rw [this]; rfl
/-- Ops of one's own that write nothing, one behind the other. -/
theorem own_do {n : Nat} {who : Int} (hw : who ≤ (n : Int)) : ∀ (l : List LOp) {U : List LOp} {d : LDoc}, Univ U n → Part U d → (∀ x ∈ U, x.dot.who = who → x ∈ d.ops) →
    (∀ (k : Nat) (o : LOp), l[k]? = some o → o.dot = ⟨who, (cnt d who : Int) + k + 1⟩ ∧ o.what ≠ 1) →
    ∃ V, Univ V n ∧ Part V (d.doR l) ∧ (∀ x ∈ V, x.dot.who = who → x ∈ (d.doR l).ops) ∧ (∀ x ∈ U, x ∈ V) ∧ (∀ x ∈ V, x ∈ U ∨ x.dot.who = who) ∧ (∀ x ∈ d.ops, x ∈ (d.doR l).ops)
  | [], U, d => fun hU hd ho _ => ⟨U, hU, hd, ho, fun x hx => hx, fun x hx => .inl hx, fun x hx => hx⟩
  | o :: t, U, d => fun hU hd ho hl => by
    obtain ⟨l1, l2⟩ := hl 0 o rfl
    unfold LDoc.doR
    by_cases he : d.applyE o ≠ 0
    · rw [if_pos he]
      exact ⟨U, hU, hd, ho, fun x hx => hx, fun x hx => .inl hx, fun x hx => hx⟩
    · rw [if_neg he]
      obtain ⟨s1, s2, s3, s4, s5⟩ := own_step hU hd hw ho (by rw [l1]) (by rw [l1]; simp) (fun h => absurd h l2) (by omega)
      obtain ⟨V, v1, v2, v3, v4, v5, v6⟩ := own_do hw t s1 s2 s3 (fun k x hx => by
        obtain ⟨m1, m2⟩ := hl (k + 1) x (by simpa using hx)
        refine ⟨?_, m2⟩
        rw [m1, s4]
        congr 1
        push_cast
        omega)
      refine ⟨V, v1, v2, v3, fun x hx => v4 x (by simp [hx]), fun x hx => ?_, fun x hx => v6 x (by rw [s5]; simp [hx])⟩
      rcases v5 x hx with h | h
      · rcases List.mem_append.1 h with h | h
        · exact .inl h
        · simp at h; subst h; exact .inr (by rw [l1])
      · exact .inr h
end Go.Proofs.YthfbjfocmnikaaaGreatDoor
/- A net in which nothing is done twice by one dot: its events, plain. Conditions: none. -/
namespace Go.Proofs.YthfbjfocmnikaaaGreatDoor
open Go.RowKit
set_option linter.unusedVariables false
/-- The strikes that a maker makes. -/
theorem strikes_ops (a b : Int) : ∀ (l : List LLeaf) (at_ : Int) (m : LMk), ∃ L, (LMk.strikes a b l at_ m).ops = m.ops ++ L ∧ (LMk.strikes a b l at_ m).who = m.who ∧ (LMk.strikes a b l at_ m).n = m.n + L.length ∧
    ∀ (k : Nat) (o : LOp), L[k]? = some o → o.dot = ⟨m.who, m.n + k + 1⟩ ∧ o.what ≠ 1
  | [], at_, m => ⟨[], by simp [LMk.strikes], rfl, by simp [LMk.strikes], by simp⟩
  | x :: l, at_, m => by
    unfold LMk.strikes
    by_cases hs : seenB x = true
    · rw [if_pos hs]
      by_cases ha : a ≤ at_ ∧ at_ < b
      · rw [if_pos ha]
        obtain ⟨L, h1, h2, h3, h4⟩ := strikes_ops a b l (at_ + 1) (m.st x.place)
        refine ⟨m.put ⟨⟨0, 0⟩, 2, x.place, 0, []⟩ :: L, ?_, h2, ?_, ?_⟩
        · rw [h1]; simp [LMk.st, LMk.add]
        · rw [h3]; simp only [LMk.st, LMk.add, List.length_cons]; push_cast; omega
        · intro k o ho
          cases k with
          | zero =>
            simp at ho; subst ho
            exact ⟨by simp [LMk.put], by simp [LMk.put]⟩
          | succ k =>
            obtain ⟨g1, g2⟩ := h4 k o (by simpa using ho)
            refine ⟨?_, g2⟩
            rw [g1]
            simp only [LMk.st, LMk.add]
            congr 1
            push_cast; omega
      · rw [if_neg ha]
        exact strikes_ops a b l (at_ + 1) m
    · rw [if_neg hs]
      exact strikes_ops a b l at_ m
theorem oneT_list (c : Int) : (oneT c).toList = [UInt8.ofNat c.toNat] := by
  have : oneT c = strOf [UInt8.ofNat c.toNat] := rfl
  rw [this, strOf_toList]
namespace LDoc
theorem maker_n {U : List LOp} {d : LDoc} (hd : Part U d) {who : Int} (hw : whoE who = 0) : nOf d.known ⟨who, 0⟩ = (cnt d who : Int) := by
  obtain ⟨h1, _, _⟩ := who_dot hw
  exact (nOf_who d.known (d := ⟨who, 0⟩) (e := ⟨who, 1⟩) rfl).trans (hd.says.known ⟨who, 1⟩ h1)
/-- What an edit does to a document of one's own. -/
theorem edit_own {U : List LOp} {n : Nat} {d : LDoc} (e : LEv) (hU : Univ U n) (hd : Part U d) (hw0 : 0 ≤ e.a) (hw : e.a + 1 ≤ (n : Int)) (hown : ∀ x ∈ U, x.dot.who = e.a + 1 → x ∈ d.ops) :
    ∃ V, Univ V n ∧ Part V (d.editR e) ∧ (∀ x ∈ V, x.dot.who = e.a + 1 → x ∈ (d.editR e).ops) ∧ (∀ x ∈ U, x ∈ V) ∧ (∀ x ∈ V, x ∈ U ∨ x.dot.who = e.a + 1) ∧ (∀ x ∈ d.ops, x ∈ (d.editR e).ops) := by
  have triv : ∃ V, Univ V n ∧ Part V d ∧ (∀ x ∈ V, x.dot.who = e.a + 1 → x ∈ d.ops) ∧ (∀ x ∈ U, x ∈ V) ∧ (∀ x ∈ V, x ∈ U ∨ x.dot.who = e.a + 1) ∧ (∀ x ∈ d.ops, x ∈ d.ops) := ⟨U, hU, hd, hown, fun x hx => hx, fun x hx => .inl hx, fun x hx => hx⟩
  unfold editR
  by_cases he : d.evE e ≠ 0
  · rw [if_pos he]; exact triv
  rw [if_neg he]
  have he0 : d.evE e = 0 := by omega
  unfold evE at he0
  unfold evL
  by_cases h1 : e.what = 1
  · rw [if_pos h1] at he0 ⊢
    split at he0
    · cases he0
    obtain ⟨i1, i2, i3, i4⟩ := ins_ok he0
    rw [i3]
    rw [oneT_list] at i4 ⊢
    obtain ⟨o, ho⟩ : ∃ o : LOp, o = ⟨⟨e.a + 1, nOf d.known ⟨e.a + 1, 0⟩ + 1⟩, 1, strOf (betweenRes (leftOf d.book e.b) (rightOf d.book (idxOf d.book e.b)) (e.a + 1)), ((UInt8.ofNat e.c.toNat).toNat : Nat), []⟩ := ⟨_, rfl⟩
    have hts : typedOps (e.a + 1) (rightOf d.book (idxOf d.book e.b)) [UInt8.ofNat e.c.toNat] (leftOf d.book e.b) (nOf d.known ⟨e.a + 1, 0⟩) = [o] := by rw [ho]; rfl
    have hgood : authorOf o.place = e.a + 1 := by rw [ho]; exact (good_of i4.1).who
    have hw2 : o.dot.who = e.a + 1 := by rw [ho]
    have hn2 : o.dot.n = (cnt d (e.a + 1) : Int) + 1 := by rw [ho]; show nOf d.known ⟨e.a + 1, 0⟩ + 1 = _; rw [maker_n hd i1]
    have hins : d.insR (e.a + 1) e.b (oneT e.c) = [o] := by rw [i3, oneT_list, hts]
    rw [hts]
    clear hts ho i3 i4
    have hone : d.doR [o] = if d.applyE o ≠ 0 then d else d.apply o := rfl
    rw [hone]
    by_cases ha : d.applyE o ≠ 0
    · rw [if_pos ha]; exact triv
    rw [if_neg ha]
    have hdo : d.doE (d.insR (e.a + 1) e.b (oneT e.c)) = 0 := by
      rw [hins]
      show (if d.applyE o ≠ 0 then d.applyE o else 0) = 0
      rw [if_neg ha]
    obtain ⟨n1, _⟩ := ins_none hd.ok he0 hdo
    rw [hins] at n1
    obtain ⟨s1, s2, s3, s4, s5⟩ := own_step (who := e.a + 1) hU hd hw hown hw2 hn2 (fun _ => ⟨hgood, n1 o (by simp)⟩) (by omega)
    exact ⟨_, s1, s2, s3, fun x hx => by simp [hx], fun x hx => by
      rcases List.mem_append.1 hx with hx | hx
      · exact .inl hx
      · simp at hx; subst hx; exact .inr hw2, fun x hx => by rw [s5]; simp [hx]⟩
  rw [if_neg h1] at he0 ⊢
  have single : ∀ (o : LOp), whoE (e.a + 1) = 0 → o.what ≠ 1 → ∃ V, Univ V n ∧ Part V (d.doR ((d.maker (e.a + 1)).add o).ops) ∧ (∀ x ∈ V, x.dot.who = e.a + 1 → x ∈ (d.doR ((d.maker (e.a + 1)).add o).ops).ops) ∧ (∀ x ∈ U, x ∈ V) ∧ (∀ x ∈ V, x ∈ U ∨ x.dot.who = e.a + 1) ∧ (∀ x ∈ d.ops, x ∈ (d.doR ((d.maker (e.a + 1)).add o).ops).ops) := fun o h2 h3 => by
    refine own_do hw _ hU hd hown ?_
    intro k x hx
    have e1 : ((d.maker (e.a + 1)).add o).ops = [(d.maker (e.a + 1)).put o] := by simp [LMk.add, maker]
    rw [e1] at hx
    cases k with
    | zero =>
      simp at hx; subst hx
      exact ⟨by simp [LMk.put, maker, maker_n hd h2], h3⟩
    | succ k => simp at hx
  by_cases h2 : e.what = 2
  · rw [if_pos h2] at he0 ⊢
    split at he0
    · rename_i ha; exact absurd he0 ha
    have hwo : whoE (e.a + 1) = 0 := by
      by_cases h : whoE (e.a + 1) = 0
      · exact h
      · unfold delE at he0; rw [if_pos h] at he0; cases he0
    unfold delR
    rw [if_pos he0]
    unfold delE at he0
    rw [if_neg (by rw [hwo]; simp)] at he0
    unfold LMk.del at he0 ⊢
    split at he0
    · cases he0
    rename_i hc
    rw [if_neg hc]
    simp only
    obtain ⟨L, l1, l2, l3, l4⟩ := strikes_ops e.b (e.b + 1) d.book 0 (d.maker (e.a + 1))
    have e0 : (d.maker (e.a + 1)).ops = [] := rfl
    rw [l1, e0, List.nil_append]
    refine own_do hw L hU hd hown (fun k o ho => ?_)
    obtain ⟨g1, g2⟩ := l4 k o ho
    refine ⟨?_, g2⟩
    rw [g1]
    simp only [maker]
    rw [maker_n hd hwo]
  rw [if_neg h2] at he0 ⊢
  by_cases h7 : e.what = 7
  · rw [if_pos h7] at he0 ⊢
    have hwo : whoE (e.a + 1) = 0 := by
      by_cases h : whoE (e.a + 1) = 0
      · exact h
      · unfold splE at he0; rw [if_pos h] at he0; cases he0
    unfold splR
    rw [if_pos he0]
    exact single _ hwo (by simp)
  · rw [if_neg h7] at he0 ⊢
    have hwo : whoE (e.a + 1) = 0 := by
      by_cases h : whoE (e.a + 1) = 0
      · exact h
      · unfold fusE at he0; rw [if_pos h] at he0; cases he0
    unfold fusR
    rw [if_pos he0]
    exact single _ hwo (by simp)
end LDoc
/-- A net in order: all its ops are of U, each node has its author's; what is under way continues what is known where it goes. -/
structure Fair (U : List LOp) (N : LNet) : Prop where
  ok : N.Ok
  univ : Univ U N.docs.length
  part : ∀ i, i < N.docs.length → Part U (N.doc i)
  own : ∀ i, i < N.docs.length → ∀ o ∈ U, o.dot.who = (i : Int) + 1 → o ∈ (N.doc i).ops
  mail : ∀ p ∈ N.under, ∃ l s, unpackOf p.2.data.toList = some l ∧ (∀ o ∈ l, o ∈ U) ∧ Runs l s ∧ ∀ i, s i ≤ cnt (N.doc p.1.toNat) i
namespace LNet
theorem doc_set {N : LNet} {i : Nat} {d : LDoc} {u : List (Int × ByteArray)} (hi : i < N.docs.length) (k : Nat) : LNet.doc ⟨N.docs.set i d, u⟩ k = if k = i then d else N.doc k := by
  unfold LNet.doc
  simp only
  by_cases hk : k = i
  · subst hk; rw [if_pos rfl, List.getD, List.getElem?_set_self hi]; rfl
  · rw [if_neg hk, List.getD, List.getD, List.getElem?_set_ne (by omega)]
theorem doc_new {n : Nat} (i : Nat) : (new n).doc i = LDoc.new := by
  unfold LNet.doc new
  simp only
  rw [List.getD, List.getElem?_replicate]
  split <;> rfl
end LNet
theorem cnt_mono {a b : LDoc} (h : ∀ x ∈ a.ops, x ∈ b.ops) (ha : Numbered a.ops) (hb : Numbered b.ops) : ∀ i, cnt a i ≤ cnt b i := fun i => by
  unfold cnt
  rcases Nat.eq_zero_or_pos (ofWho i a.ops).length with h0 | h0
  · omega
  · obtain ⟨x, hx⟩ : ∃ x, (ofWho i a.ops)[(ofWho i a.ops).length - 1]? = some x := ⟨_, List.getElem?_eq_getElem (by omega)⟩
    have h1 := ha i _ x hx
    obtain ⟨m1, m2⟩ := mem_ofWho.1 (List.mem_of_getElem? hx)
    obtain ⟨k, hk⟩ := List.mem_iff_getElem?.1 (mem_ofWho.2 ⟨h x m1, m2⟩)
    have h2 := hb i k x hk
    have h3 : k < (ofWho i b.ops).length := by
      rcases Nat.lt_or_ge k (ofWho i b.ops).length with h | h
      · exact h
      · rw [List.getElem?_eq_none h] at hk; cases hk
    omega
namespace Fair
variable {U : List LOp} {N : LNet}
theorem new {n : Nat} (h1 : 1 ≤ n) (h4 : n ≤ 4) : Fair [] (LNet.new n) where
  ok := LNet.new_ok h1 h4
  univ := ⟨by simp, by simp, by simp, by simp, by simp⟩
  part := fun i _ => by rw [LNet.doc_new]; exact Part.new _
  own := by simp
  mail := by simp [LNet.new]
theorem edit (h : Fair U N) (e : LEv) : ∃ V, Fair V (N.edit e) ∧ ∀ x ∈ U, x ∈ V := by
  unfold LNet.edit
  split
  · exact ⟨U, h, fun x hx => hx⟩
  rename_i hb
  obtain ⟨b1, b2⟩ := LNet.nodeB_iff.1 (by simpa using hb : N.nodeB e.a = true)
  have hi : e.a.toNat < N.docs.length := by omega
  obtain ⟨V, v1, v2, v3, v4, v5, v6⟩ := LDoc.edit_own e h.univ (h.part _ hi) b1 (by omega) (fun x hx hxw => h.own _ hi x hx (by omega))
  refine ⟨V, ⟨h.ok.set _ (LNet.editR_ok (h.ok.doc _) e), ?_, fun i hi2 => ?_, fun i hi2 o ho how => ?_, fun p hp => ?_⟩, v4⟩
  · simp only [List.length_set]; exact v1
  · simp only [List.length_set] at hi2
    rw [LNet.doc_set hi]
    split
    · exact v2
    · exact (h.part i hi2).more v4
  · simp only [List.length_set] at hi2
    rw [LNet.doc_set hi]
    split
    · rename_i hii
      subst hii
      exact v3 o ho (by omega)
    · rename_i hii
      rcases v5 o ho with h5 | h5
      · exact h.own i hi2 o h5 how
      · omega
  · obtain ⟨l, s, m1, m2, m3, m4⟩ := h.mail p hp
    refine ⟨l, s, m1, fun o ho => v4 o (m2 o ho), m3, fun i => ?_⟩
    rw [LNet.doc_set hi]
    split
    · rename_i hii
      have := m4 i
      rw [hii] at this
      exact Nat.le_trans this (cnt_mono v6 (h.part _ hi).num v2.num i)
    · exact m4 i
theorem send (h : Fair U N) (i j : Int) : Fair U (N.send i j) := by
  have ok2 := h.ok.send i j
  unfold LNet.send at ok2 ⊢
  split
  · exact h
  rename_i he
  rw [if_neg he] at ok2
  unfold LNet.sendE at he
  split at he
  · omega
  rename_i hn
  obtain ⟨i1, i2⟩ := LNet.nodeB_iff.1 (by cases hh : N.nodeB i <;> simp_all : N.nodeB i = true)
  obtain ⟨j1, j2⟩ := LNet.nodeB_iff.1 (by cases hh : N.nodeB j <;> simp_all : N.nodeB j = true)
  refine ⟨ok2, h.univ, h.part, h.own, fun p hp => ?_⟩
  rcases List.mem_append.1 hp with hp | hp
  · exact h.mail p hp
  · simp only [List.mem_cons, List.not_mem_nil, or_false] at hp
    subst hp
    have hi : i.toNat < N.docs.length := by omega
    have hj : j.toNat < N.docs.length := by omega
    obtain ⟨r1, r2, r3⟩ := lacks_runs h.univ (h.part _ hi) (h.part _ hj)
    refine ⟨lacksR (N.doc i.toNat).ops (N.doc j.toNat).known, cnt (N.doc j.toNat), ?_, r2, r1, fun k => Nat.le_refl _⟩
    have hfew := (h.part _ hi).ok.few
    have hl : (lacksR (N.doc i.toNat).ops (N.doc j.toNat).known).length ≤ (N.doc i.toNat).ops.length := List.length_filter_le _ _
    have hp : packErr (lacksR (N.doc i.toNat).ops (N.doc j.toNat).known) = 0 := by
      unfold packErr
      rw [if_neg (by omega)]
      exact opsErr_of (fun o ho => h.univ.good o (r2 o ho))
    have e1 : (LDoc.parc (N.doc i.toNat) (N.doc j.toNat).known).data.toList = packBytes (lacksR (N.doc i.toNat).ops (N.doc j.toNat).known) := by
      unfold LDoc.parc packRes
      rw [if_pos hp]
      simp [strOf]
    simp only
    rw [e1]
    exact unpack_pack hp
theorem take_ (h : Fair U N) (k : Nat) : ∀ p ∈ N.under.eraseIdx k, p ∈ N.under := fun p hp => List.mem_of_mem_eraseIdx hp
/-- A parcel that comes: nothing is wrong but that there is no room. -/
theorem open_ (h : Fair U N) {p : Int × ByteArray} (hp : p ∈ N.under) : ((N.doc p.1.toNat).openE p.2 = 0 ∨ (N.doc p.1.toNat).openE p.2 = 4) ∧ Part U ((N.doc p.1.toNat).openR p.2) ∧ (∀ x ∈ (N.doc p.1.toNat).ops, x ∈ ((N.doc p.1.toNat).openR p.2).ops) := by
  obtain ⟨l, s, m1, m2, m3, m4⟩ := h.mail p hp
  obtain ⟨t1, t2⟩ := h.ok.goes p hp
  have hi : p.1.toNat < N.docs.length := by omega
  obtain ⟨r1, r2, r3, r4, r5⟩ := run_do h.univ l _ s (h.part _ hi) m2 m3 m4
  have e1 : (N.doc p.1.toNat).openE p.2 = (N.doc p.1.toNat).doE l := by unfold LDoc.openE; rw [m1]
  have e2 : (N.doc p.1.toNat).openR p.2 = (N.doc p.1.toNat).doR l := by unfold LDoc.openR; rw [m1]
  rw [e1, e2]
  exact ⟨r1, r2, r5⟩
theorem mail_ (h : Fair U N) (e : LEv) : Fair U (N.mail e) := by
  have ok2 := h.ok.mail e
  unfold LNet.mail at ok2 ⊢
  split
  · exact h
  rename_i hm
  rw [if_neg hm] at ok2
  obtain ⟨hi, h1, h2⟩ := LNet.mail_get hm
  split
  · rename_i h6
    rw [if_pos h6] at ok2
    split
    · exact h
    · rename_i hf
      rw [if_neg hf] at ok2
      refine ⟨ok2, h.univ, h.part, h.own, fun p hp => ?_⟩
      rcases List.mem_append.1 hp with hp | hp
      · exact h.mail p hp
      · simp only [List.mem_cons, List.not_mem_nil, or_false] at hp
        subst hp
        rw [h1]
        exact h.mail _ (List.getElem_mem hi)
  rename_i h6
  rw [if_neg h6] at ok2
  split
  · rename_i h5
    rw [if_pos h5] at ok2
    exact ⟨ok2, h.univ, h.part, h.own, fun p hp => h.mail p (h.take_ _ p hp)⟩
  · rename_i h5
    rw [if_neg h5] at ok2
    have hmem : N.mailAt e.a.toNat ∈ N.under := by rw [h1]; exact List.getElem_mem hi
    obtain ⟨o1, o2, o3⟩ := h.open_ hmem
    obtain ⟨t1, t2⟩ := h.ok.goes _ hmem
    have hto : (N.mailAt e.a.toNat).1.toNat < N.docs.length := by omega
    refine ⟨ok2, by simp only [List.length_set]; exact h.univ, fun i hi2 => ?_, fun i hi2 o ho how => ?_, fun p hp => ?_⟩
    · simp only [List.length_set] at hi2
      rw [LNet.doc_set hto]
      split
      · exact o2
      · exact h.part i hi2
    · simp only [List.length_set] at hi2
      rw [LNet.doc_set hto]
      split
      · rename_i hii
        subst hii
        exact o3 o (h.own _ hi2 o ho how)
      · exact h.own i hi2 o ho how
    · obtain ⟨l, s, m1, m2, m3, m4⟩ := h.mail p (h.take_ _ p hp)
      refine ⟨l, s, m1, m2, m3, fun i => ?_⟩
      rw [LNet.doc_set hto]
      split
      · rename_i hii
        have := m4 i
        rw [hii] at this
        exact Nat.le_trans this (cnt_mono o3 (h.part _ hto).num o2.num i)
      · exact m4 i
theorem do_ (h : Fair U N) (e : LEv) : ∃ V, Fair V (N.do_ e) ∧ ∀ x ∈ U, x ∈ V := by
  unfold LNet.do_
  split
  · exact h.edit e
  split
  · exact ⟨U, h.send _ _, fun x hx => hx⟩
  split
  · exact ⟨U, h.mail_ e, fun x hx => hx⟩
  · exact ⟨U, h, fun x hx => hx⟩
end Fair
end Go.Proofs.YthfbjfocmnikaaaGreatDoor
/- Each sends to each, and all comes: plain. Conditions: none. -/
namespace Go.Proofs.YthfbjfocmnikaaaGreatDoor
open Go.RowKit
set_option linter.unusedVariables false
/-- The event that the first parcel comes. -/
def dlv : LEv := ⟨4, 0, 0, 0⟩
def sndE (i j : Int) : LEv := ⟨3, i, j, 0⟩
theorem ofWho_same {U : List LOp} {n : Nat} {a b : LDoc} (hU : Univ U n) (ha : Part U a) (hb : Part U b) (i : Int) (h : cnt a i = cnt b i) : ofWho i a.ops = ofWho i b.ops := by
  unfold cnt at h
  apply List.ext_getElem h
  intro k h1 h2
  have e1 := ha.num i k _ (List.getElem?_eq_getElem h1)
  have e2 := hb.num i k _ (List.getElem?_eq_getElem h2)
  have m1 := mem_ofWho.1 (List.getElem_mem h1)
  have m2 := mem_ofWho.1 (List.getElem_mem h2)
  refine hU.agree _ (ha.sub _ m1.1) _ (hb.sub _ m2.1) ?_
  have w1 := m1.2
  have w2 := m2.2
  generalize (ofWho i a.ops)[k] = x at *
  generalize (ofWho i b.ops)[k] = y at *
  obtain ⟨⟨xw, xn⟩, _, _, _, _⟩ := x
  obtain ⟨⟨yw, yn⟩, _, _, _, _⟩ := y
  simp only at e1 e2 w1 w2
  rw [e1, e2, w1, w2]
namespace Fair
variable {U : List LOp} {N : LNet}
theorem own_most (h : Fair U N) {a : Nat} (ha : a < N.docs.length) {d : LDoc} (hd : Part U d) : cnt d ((a : Int) + 1) ≤ cnt (N.doc a) ((a : Int) + 1) := by
  have e : ∀ x ∈ ofWho ((a : Int) + 1) d.ops, x ∈ (N.doc a).ops := fun x hx => by
    obtain ⟨m1, m2⟩ := mem_ofWho.1 hx
    exact h.own a ha x (hd.sub x m1) m2
  unfold cnt
  rcases Nat.eq_zero_or_pos (ofWho ((a : Int) + 1) d.ops).length with h0 | h0
  · omega
  · obtain ⟨x, hx⟩ : ∃ x, (ofWho ((a : Int) + 1) d.ops)[(ofWho ((a : Int) + 1) d.ops).length - 1]? = some x := ⟨_, List.getElem?_eq_getElem (by omega)⟩
    have h1 := hd.num _ _ x hx
    have hm := List.mem_of_getElem? hx
    obtain ⟨k, hk⟩ := List.mem_iff_getElem?.1 (mem_ofWho.2 ⟨e x hm, (mem_ofWho.1 hm).2⟩)
    have h2 := (h.part a ha).num _ k x hk
    have h3 : k < (ofWho ((a : Int) + 1) (N.doc a).ops).length := by
      rcases Nat.lt_or_ge k (ofWho ((a : Int) + 1) (N.doc a).ops).length with h | h
      · exact h
      · rw [List.getElem?_eq_none h] at hk; cases hk
    omega
theorem cnt_own (h : Fair U N) {a b : Nat} (ha : a < N.docs.length) (hb : b < N.docs.length) : cnt (N.doc b) ((a : Int) + 1) ≤ cnt (N.doc a) ((a : Int) + 1) := h.own_most ha (h.part b hb)
/-- All have of each author as many as the author's node: then all are the same. -/
theorem same (h : Fair U N) (hall : ∀ a b, a < N.docs.length → b < N.docs.length → cnt (N.doc b) ((a : Int) + 1) = cnt (N.doc a) ((a : Int) + 1)) : ∀ a b, a < N.docs.length → b < N.docs.length →
    (∀ i, ofWho i (N.doc a).ops = ofWho i (N.doc b).ops) ∧ (N.doc a).book = (N.doc b).book ∧ (N.doc a).marks = (N.doc b).marks ∧ (N.doc a).known = (N.doc b).known := fun a b ha hb => by
  have hc : ∀ i, cnt (N.doc a) i = cnt (N.doc b) i := fun i => by
    by_cases hi : 1 ≤ i ∧ i ≤ (N.docs.length : Int)
    · have h1 := hall (i - 1).toNat a (by omega) ha
      have h2 := hall (i - 1).toNat b (by omega) hb
      rw [show (((i - 1).toNat : Nat) : Int) + 1 = i by omega] at h1 h2
      omega
    · have hz : ∀ d, Part U d → cnt d i = 0 := fun d hd => by
        unfold cnt
        rw [List.length_eq_zero_iff, List.eq_nil_iff_forall_not_mem]
        intro x hx
        obtain ⟨m1, m2⟩ := mem_ofWho.1 hx
        have hu := hd.sub x m1
        have h1 := h.univ.who x hu
        have h2 := (op_ok (h.univ.good x hu)).1
        unfold dotErr at h2
        split at h2
        · omega
        · omega
      rw [hz _ (h.part a ha), hz _ (h.part b hb)]
  have hw : ∀ i, ofWho i (N.doc a).ops = ofWho i (N.doc b).ops := fun i => ofWho_same h.univ (h.part a ha) (h.part b hb) i (hc i)
  exact ⟨hw, Says.same (h.part a ha).says (h.part b hb).says (h.part a ha).ok (h.part b hb).ok hw⟩
theorem sameB (h : Fair U N) (hall : ∀ a b, a < N.docs.length → b < N.docs.length → cnt (N.doc b) ((a : Int) + 1) = cnt (N.doc a) ((a : Int) + 1)) : N.sameB = true := by
  unfold LNet.sameB
  rw [List.all_eq_true]
  intro d hd
  obtain ⟨i, hi, rfl⟩ := List.getElem_of_mem hd
  have := h.same hall i 0 hi (by omega)
  rw [← LNet.doc_get hi]
  simp only [decide_eq_true_eq]
  exact ⟨this.2.1, this.2.2.1⟩
/-- One sends to another one, and it comes. -/
theorem mesh (h : Fair U N) (hu : N.under = []) {i j : Nat} (hi : i < N.docs.length) (hj : j < N.docs.length) (hij : i ≠ j) :
    N.doE (sndE i j) = 0 ∧ (((N.do_ (sndE i j)).doE dlv = 0 ∨ (N.do_ (sndE i j)).doE dlv = 4) ∧ ((N.do_ (sndE i j)).do_ dlv).under = [] ∧ ((N.do_ (sndE i j)).do_ dlv).docs.length = N.docs.length ∧ Fair U ((N.do_ (sndE i j)).do_ dlv) ∧
      (∀ k w, cnt (N.doc k) w ≤ cnt (((N.do_ (sndE i j)).do_ dlv).doc k) w) ∧ (∀ k, k ≠ j → ((N.do_ (sndE i j)).do_ dlv).doc k = N.doc k) ∧ ((N.do_ (sndE i j)).doE dlv = 0 → ∀ w, cnt (N.doc i) w ≤ cnt (((N.do_ (sndE i j)).do_ dlv).doc j) w) ∧
      ∃ L, (N.do_ (sndE i j)).doE dlv = (N.doc j).doE L ∧ ((N.do_ (sndE i j)).do_ dlv).doc j = (N.doc j).doR L ∧ (∀ o ∈ L, o ∈ U) ∧ Runs L (cnt (N.doc j))) := by
  have s0 : N.sendE i j = 0 := by
    unfold LNet.sendE
    rw [if_neg, if_neg (by omega), if_neg (by rw [hu]; simp)]
    rintro (hh | hh)
    · have := LNet.nodeB_iff.2 (show (0 : Int) ≤ (i : Int) ∧ (i : Int) < N.docs.length by omega); rw [hh] at this; cases this
    · have := LNet.nodeB_iff.2 (show (0 : Int) ≤ (j : Int) ∧ (j : Int) < N.docs.length by omega); rw [hh] at this; cases this
  have e1 : N.doE (sndE i j) = N.sendE i j := by unfold LNet.doE sndE; rw [if_neg (by unfold LNet.editB; simp), if_pos rfl]
  have e2 : N.do_ (sndE i j) = N.send i j := by unfold LNet.do_ sndE; rw [if_neg (by unfold LNet.editB; simp), if_pos rfl]
  have hf := h.send i j
  have e3 : N.send i j = { N with under := [((j : Int), (N.doc i).parc (N.doc j).known)] } := by
    unfold LNet.send
    rw [if_neg (by omega), hu]
    simp
  rw [e1, e2]
  refine ⟨s0, ?_⟩
  rw [e3] at hf ⊢
  generalize hM : ({ N with under := [((j : Int), (N.doc i).parc (N.doc j).known)] } : LNet) = M at hf ⊢
  have hMd : M.docs = N.docs := by rw [← hM]
  have hMu : M.under = [((j : Int), (N.doc i).parc (N.doc j).known)] := by rw [← hM]
  have hMk : ∀ k, M.doc k = N.doc k := fun k => by unfold LNet.doc; rw [hMd]
  have e4 : M.doE dlv = M.mailE dlv := by unfold LNet.doE dlv; rw [if_neg (by unfold LNet.editB; simp), if_neg (by simp), if_pos (by unfold LNet.mailB; simp)]
  have e5 : M.do_ dlv = M.mail dlv := by unfold LNet.do_ dlv; rw [if_neg (by unfold LNet.editB; simp), if_neg (by simp), if_pos (by unfold LNet.mailB; simp)]
  have hnm : ¬ M.noMail dlv.a := by unfold LNet.noMail dlv; rw [hMu]; simp
  have hat : M.mailAt dlv.a.toNat = ((j : Int), (N.doc i).parc (N.doc j).known) := by unfold LNet.mailAt dlv; rw [hMu]; rfl
  have e6 : M.mailE dlv = (N.doc j).openE ((N.doc i).parc (N.doc j).known) := by
    unfold LNet.mailE
    rw [if_neg hnm, if_neg (by simp [dlv]), if_neg (by simp [dlv]), hat]
    simp only [Int.toNat_natCast]
    rw [hMk]
  have e7 : M.mail dlv = ⟨N.docs.set j ((N.doc j).openR ((N.doc i).parc (N.doc j).known)), []⟩ := by
    unfold LNet.mail
    rw [if_neg hnm, if_neg (by simp [dlv]), if_neg (by simp [dlv]), hat]
    simp only [Int.toNat_natCast]
    rw [hMk, hMd, hMu]
    rfl
  have hfm := hf.mail_ dlv
  have hmem : ((j : Int), (N.doc i).parc (N.doc j).known) ∈ M.under := by rw [hMu]; simp
  obtain ⟨o1, o2, o3⟩ := hf.open_ hmem
  simp only [Int.toNat_natCast] at o1 o2 o3
  rw [hMk] at o1 o2 o3
  rw [e4, e5, e6]
  rw [e7] at hfm ⊢
  have hpj := h.part j hj
  obtain ⟨r1, r2, r3⟩ := lacks_runs h.univ (h.part _ hi) hpj
  have hfew := (h.part _ hi).ok.few
  have hl : (lacksR (N.doc i).ops (N.doc j).known).length ≤ (N.doc i).ops.length := List.length_filter_le _ _
  have hp : packErr (lacksR (N.doc i).ops (N.doc j).known) = 0 := by
    unfold packErr
    rw [if_neg (by omega)]
    exact opsErr_of (fun o ho => h.univ.good o (r2 o ho))
  have hup : unpackOf ((N.doc i).parc (N.doc j).known).data.toList = some (lacksR (N.doc i).ops (N.doc j).known) := by
    have e1 : ((N.doc i).parc (N.doc j).known).data.toList = packBytes (lacksR (N.doc i).ops (N.doc j).known) := by
      unfold LDoc.parc packRes
      rw [if_pos hp]
      simp [strOf]
    rw [e1]
    exact unpack_pack hp
  have e8 : (N.doc j).openE ((N.doc i).parc (N.doc j).known) = (N.doc j).doE (lacksR (N.doc i).ops (N.doc j).known) := by unfold LDoc.openE; rw [hup]
  have e9 : (N.doc j).openR ((N.doc i).parc (N.doc j).known) = (N.doc j).doR (lacksR (N.doc i).ops (N.doc j).known) := by unfold LDoc.openR; rw [hup]
  refine ⟨o1, rfl, by simp, hfm, fun k w => ?_, fun k hk => ?_, fun h0 w => ?_, lacksR (N.doc i).ops (N.doc j).known, e8, ?_, r2, r1⟩
  · rw [LNet.doc_set hj]
    split
    · rename_i hkj; subst hkj; exact cnt_mono o3 hpj.num o2.num w
    · exact Nat.le_refl _
  · rw [LNet.doc_set hj, if_neg hk]
  · rw [LNet.doc_set hj, if_pos rfl]
    rw [e8] at h0
    rw [e9]
    obtain ⟨_, _, _, t4, _⟩ := run_do h.univ _ _ (cnt (N.doc j)) hpj r2 r1 (fun k => Nat.le_refl _)
    have := t4 h0 w
    have := r3 w
    omega
  · rw [LNet.doc_set hj, if_pos rfl, e9]
end Fair
end Go.Proofs.YthfbjfocmnikaaaGreatDoor
/- When what is typed goes, and what may be wrong with it: plain. Conditions: none. -/
namespace Go.Proofs.YthfbjfocmnikaaaGreatDoor
open Go.RowKit
set_option linter.unusedVariables false
theorem typed_goes (who : Int) (right : ByteArray) (hw0 : 1 ≤ who) (hw1 : who ≤ 8) : ∀ (t : List UInt8) (left : ByteArray) (n : Int) (d : LDoc) (a b : List LLeaf), d.Ok → d.book = a ++ b → Gap a b left right → nOf d.known ⟨who, 0⟩ = n → 0 ≤ n → n + t.length ≤ 9999 → d.ops.length + t.length ≤ 400 → d.book.length + t.length ≤ 300 →
    t.any badC = false → TypedOk who right t left → d.doE (typedOps who right t left n) = 0
  | [], left, n, d, a, b => fun hk hb hg hn h0 h1 h2 h3 h4 ht => rfl
  | c :: t, left, n, d, a, b => fun hk hb hg hn h0 h1 h2 h3 h4 ht => by
    obtain ⟨t1, t2⟩ := ht
    have hgood := good_of t1
    rw [List.any_cons, Bool.or_eq_false_iff] at h4
    obtain ⟨h41, h42⟩ := h4
    have hlet : letterB (c.toNat : Int) = true := by unfold badC at h41; simpa using h41
    simp only [List.length_cons] at h1 h2 h3
    rw [typedOps]
    generalize hp : strOf (betweenRes left right who) = p at *
    have hn' : nOf d.known ⟨who, n + 1⟩ = n := (nOf_who _ rfl).trans hn
    have hdot : dotErr ⟨who, n + 1⟩ = 0 := by unfold dotErr; rw [if_pos]; simp only; omega
    have hop : opErr ⟨⟨who, n + 1⟩, 1, p, c.toNat, []⟩ = 0 := by
      unfold opErr
      rw [if_neg (by simp only; omega), if_neg (by simp), if_neg (by have := hgood.check; simp only; omega), if_neg (by rintro ⟨_, h⟩; simp only at h; rw [hlet] at h; cases h), if_neg (by simp), if_neg (by simp), if_neg (by simp)]
      rfl
    obtain ⟨g1, g2⟩ := hg.at_ hgood
    have hr : Rising (a ++ b) := by rw [← hb]; exact hk.book.rising
    have hno := gap_none hr g1 g2
    have hwr : writeErr d.book p c.toNat = 0 := write_zero hk.book hgood.check hlet (.inr (by omega)) (.inl (by rw [hb, no_old hno]))
    have hte : d.turnE ⟨⟨who, n + 1⟩, 1, p, c.toNat, []⟩ = 0 := by unfold LDoc.turnE; rw [if_pos rfl]; exact hwr
    have hh : hasRes d.known ⟨who, n + 1⟩ = false := by
      unfold hasRes
      rw [Bool.and_eq_false_iff]
      exact .inr (decide_eq_false (by rw [hn']; show ¬ (n + 1 ≤ n); omega))
    have ha : addErr d.known ⟨who, n + 1⟩ = 0 := by
      unfold addErr
      have hv := LDoc.vd_zero hk hop
      simp only at hv
      rw [if_neg (by omega), if_neg (by rw [hn']; simp only; omega), if_neg (by rw [hn']; simp only; omega)]
    obtain ⟨q1, q2, q3⟩ := LDoc.apply_good hk hop hh ha (by omega) hte
    have hturn : d.turn ⟨⟨who, n + 1⟩, 1, p, c.toNat, []⟩ = { d with book := a ++ ⟨p, c.toNat, false⟩ :: b } := by
      unfold LDoc.turn
      rw [if_pos rfl, if_pos hwr, write_upd, hb, no_old hno]
      rw [upd_gap hr g1 g2]
      rfl
    have hk2 := LDoc.apply_ok hk ⟨⟨who, n + 1⟩, 1, p, c.toNat, []⟩
    unfold LDoc.doE
    rw [if_neg (by omega)]
    rw [q3, hturn] at hk2 ⊢
    obtain ⟨a1, a2, a3⟩ := add_ok ha
    have hn2 : nOf (addRes d.known ⟨who, n + 1⟩) ⟨who, 0⟩ = n + 1 := by
      rw [nOf_who _ (show (⟨who, 0⟩ : LDot).who = (⟨who, n + 1⟩ : LDot).who from rfl), nOf_add a1 a2 a2, if_pos rfl]
    refine typed_goes who right hw0 hw1 t p (n + 1) _ (a ++ [⟨p, c.toNat, false⟩]) b hk2 (by simp) (hg.next hgood _ _) hn2 (by omega) (by omega) ?_ ?_ h42 t2
    · simp; omega
    · rw [hb] at h3; simp at h3 ⊢; omega
/-- Two between which one may be. -/
def Between (a b : ByteArray) : Prop := (a.size = 0 ∨ placeErr a = 0) ∧ (b.size = 0 ∨ placeErr b = 0) ∧ (a.size ≠ 0 → b.size ≠ 0 → lt a b = true)
theorem between_ready {a b : ByteArray} (h : Between a b) : readyErr a b = 0 := by
  obtain ⟨h1, h2, h3⟩ := h
  unfold readyErr
  rw [if_neg, if_neg, if_neg]
  · rintro ⟨x, y, z⟩
    have := h3 x y
    unfold lt at this
    rw [this] at z; cases z
  · rintro ⟨x, y⟩
    rcases h2 with h | h
    · exact x h
    · exact y h
  · rintro ⟨x, y⟩
    rcases h1 with h | h
    · exact x h
    · exact y h
theorem between_eight {a b : ByteArray} (h : Between a b) {who : Int} (hw0 : 1 ≤ who) (hw1 : who ≤ 8) : betweenErr a b who = 0 ∨ betweenErr a b who = 8 := by
  unfold betweenErr roomErr
  rw [if_neg (by omega), if_neg (by have := between_ready h; omega)]
  split
  · exact .inr rfl
  · exact .inl rfl
theorem typed_eight (right : ByteArray) : ∀ (t : List UInt8) (left : ByteArray) (m : LMk), 1 ≤ m.who → m.who ≤ 8 → Between left right → (LMk.typed right t left m).2 = 0 ∨ (LMk.typed right t left m).2 = 8
  | [], left, m => fun _ _ _ => .inl rfl
  | c :: t, left, m => fun h0 h1 hb => by
    unfold LMk.typed
    by_cases he : betweenErr left right m.who ≠ 0
    · rw [if_pos he]
      rcases between_eight hb h0 h1 with h | h
      · exact absurd h he
      · exact .inr h
    · rw [if_neg he]
      have hgood := good_of (show betweenErr left right m.who = 0 by omega)
      refine typed_eight right t _ _ h0 h1 ⟨.inr hgood.check, hb.2.1, fun _ hr => (good_lt hgood).2 hr⟩
theorem ins_between {l : List LLeaf} (hb : BookOk l) {off : Int} (h0 : 0 ≤ off) (h1 : off ≤ ((textOf l).size : Int)) : Between (leftOf l off) (rightOf l (idxOf l off)) := by
  obtain ⟨g1, g2, g3⟩ := ins_gap hb h0 h1
  have hl : (leftOf l off).size = 0 ∨ ∃ n, ∃ hn : n < l.length, leftOf l off = l[n].place ∧ idxOf l off = n + 1 := by
    by_cases hp : 0 < off
    · obtain ⟨o, rfl⟩ : ∃ o : Nat, off = (o : Int) + 1 := ⟨(off - 1).toNat, by omega⟩
      have hsz : (textOf l).size = (textL l).length := strOf_size _
      obtain ⟨n, hn, e1, e2, e3⟩ := nth_seen l 0 o (by omega)
      have en : (nthFrom 0 l ((o : Int) + 1 - 1)).toNat = n := by rw [show (o : Int) + 1 - 1 = o by omega, e1]; omega
      exact .inr ⟨n, hn, by unfold leftOf; rw [if_pos hp, en]; simp [List.getD, hn], by unfold idxOf; rw [if_pos hp, en]⟩
    · exact .inl (by unfold leftOf; rw [if_neg hp]; rfl)
  have hr : (rightOf l (idxOf l off)).size = 0 ∨ ∃ h : idxOf l off < l.length, rightOf l (idxOf l off) = l[idxOf l off].place := by
    by_cases hi : idxOf l off < l.length
    · exact .inr ⟨hi, by unfold rightOf; rw [if_pos hi]; simp [List.getD, hi]⟩
    · exact .inl (by unfold rightOf; rw [if_neg hi]; rfl)
  refine ⟨?_, ?_, fun x y => ?_⟩
  · rcases hl with h | ⟨n, hn, h, _⟩
    · exact .inl h
    · rw [h]; exact .inr (hb.leafs _ (List.getElem_mem hn)).place
  · rcases hr with h | ⟨hi, h⟩
    · exact .inl h
    · rw [h]; exact .inr (hb.leafs _ (List.getElem_mem hi)).place
  · rcases hl with h | ⟨n, hn, h, hin⟩
    · exact absurd h x
    · rcases hr with h' | ⟨hi, h'⟩
      · exact absurd h' y
      · rw [h, h']
        exact rising_lt hb.rising n _ hn hi (by omega)
namespace LDoc
/-- What may be wrong with an insert. -/
theorem insE_cases {d : LDoc} (hk : d.Ok) (who off : Int) (text : ByteArray) : whoE who ≠ 0 ∧ d.insE who off text = 1 ∨ whoE who = 0 ∧ insErr d.book off text ≠ 0 ∧ d.insE who off text = insErr d.book off text ∨
    whoE who = 0 ∧ insErr d.book off text = 0 ∧ (d.insE who off text = 0 ∨ d.insE who off text = 8) := by
  by_cases hw : whoE who = 0
  · by_cases hi : insErr d.book off text = 0
    · refine .inr (.inr ⟨hw, hi, ?_⟩)
      obtain ⟨i1, i2, i3, i4⟩ := insErr_zero hi
      obtain ⟨_, w0, w1⟩ := who_dot hw
      unfold insE LMk.ins
      rw [if_neg (by omega), if_neg (by omega)]
      exact typed_eight _ _ _ _ w0 w1 (ins_between hk.book i3 i4)
    · refine .inr (.inl ⟨hw, hi, ?_⟩)
      unfold insE LMk.ins
      rw [if_neg (by omega), if_pos hi]
  · exact .inl ⟨hw, if_pos hw⟩
/-- What is typed goes, where there is room. -/
theorem ins_goes {d : LDoc} (hk : d.Ok) {who off : Int} {text : ByteArray} (h : d.insE who off text = 0) (h1 : nOf d.known ⟨who, 0⟩ + text.size ≤ 9999) (h0 : 0 ≤ nOf d.known ⟨who, 0⟩) (h2 : d.ops.length + text.size ≤ 400) (h3 : d.book.length + text.size ≤ 300) : d.doE (d.insR who off text) = 0 := by
  obtain ⟨a1, a2, a3, a4⟩ := ins_ok h
  obtain ⟨i1, i2, i3, i4⟩ := insErr_zero a2
  obtain ⟨_, w0, w1⟩ := who_dot a1
  obtain ⟨g1, g2, g3⟩ := ins_gap hk.book i3 i4
  rw [a3]
  exact typed_goes who _ w0 w1 _ _ _ d _ _ hk (List.take_append_drop _ _).symm g3 rfl h0 (by rw [toList_len]; omega) (by rw [toList_len]; omega) (by rw [toList_len]; omega) i2 a4
end LDoc
end Go.Proofs.YthfbjfocmnikaaaGreatDoor
/- Nodes that type, each its own, and then send: plain. Conditions: none. -/
namespace Go.Proofs.YthfbjfocmnikaaaGreatDoor
open Go.RowKit
set_option linter.unusedVariables false
/-- A document in which letters stand that were typed, and no others. -/
structure Lets (d : LDoc) : Prop where
  what : ∀ x ∈ d.ops, x.what = 1
  place : ∀ x ∈ d.ops, ∀ y ∈ d.ops, x.place = y.place → x = y
  len : d.book.length = d.ops.length
  seen : ∀ x ∈ d.book, seenB x = true
theorem Lets.new : Lets LDoc.new := ⟨by simp [LDoc.new], by simp [LDoc.new], rfl, by simp [LDoc.new]⟩
theorem Lets.text {d : LDoc} (h : Lets d) : (textOf d.book).size = d.ops.length := by
  rw [← h.len]
  unfold textOf
  rw [strOf_size]
  unfold textL
  rw [List.length_map, List.filter_eq_self.2 h.seen]
theorem mem_bookPut {l : List LLeaf} {i : Nat} {x y : LLeaf} (h : y ∈ bookPut l i x) : y ∈ l ∨ y = x := by
  unfold bookPut at h
  rcases List.mem_append.1 h with h | h
  · exact .inl (List.mem_of_mem_take h)
  · rcases List.mem_cons.1 h with h | h
    · exact .inr h
    · exact .inl (List.mem_of_mem_drop h)
def sumTo (f : Nat → Nat) : Nat → Nat
  | 0 => 0
  | n + 1 => sumTo f n + f n
theorem sumTo_congr {f g : Nat → Nat} : ∀ n, (∀ a, a < n → f a = g a) → sumTo f n = sumTo g n
  | 0, _ => rfl
  | n + 1, h => by unfold sumTo; rw [sumTo_congr n (fun a ha => h a (by omega)), h n (by omega)]
theorem sumTo_le {f : Nat → Nat} {c : Nat} : ∀ n, (∀ a, a < n → f a ≤ c) → sumTo f n ≤ n * c
  | 0, _ => Nat.zero_le _
  | n + 1, h => by
    unfold sumTo
    have := sumTo_le n (fun a ha => h a (by omega))
    have := h n (by omega)
    rw [Nat.add_mul]; omega
theorem sumTo_zero : ∀ n, sumTo (fun _ => 0) n = 0
  | 0 => rfl
  | n + 1 => by unfold sumTo; rw [sumTo_zero n]
theorem sumTo_one (k : Nat) : ∀ n, sumTo (fun a => if a = k then 1 else 0) n = if k < n then 1 else 0
  | 0 => rfl
  | n + 1 => by
    unfold sumTo
    rw [sumTo_one k n]
    by_cases h1 : k < n
    · rw [if_pos h1, if_neg (by omega), if_pos (by omega)]
    · rw [if_neg h1]
      by_cases h2 : n = k
      · rw [if_pos h2, if_pos (by omega)]
      · rw [if_neg h2, if_neg (by omega)]
theorem sumTo_add (f g : Nat → Nat) : ∀ n, sumTo (fun a => f a + g a) n = sumTo f n + sumTo g n
  | 0 => rfl
  | n + 1 => by unfold sumTo; rw [sumTo_add f g n]; omega
theorem ofWho_sum (n : Nat) : ∀ (l : List LOp), (∀ o ∈ l, 1 ≤ o.dot.who ∧ o.dot.who ≤ (n : Int)) → sumTo (fun a => (ofWho ((a : Int) + 1) l).length) n = l.length
  | [], _ => by
    have : (fun a : Nat => (ofWho ((a : Int) + 1) []).length) = fun _ => 0 := by funext a; rfl
    rw [this, sumTo_zero]; rfl
  | o :: l, h => by
    have h0 := h o (by simp)
    have ih := ofWho_sum n l (fun x hx => h x (by simp [hx]))
    have e : (fun a : Nat => (ofWho ((a : Int) + 1) (o :: l)).length) = fun a => (if a = (o.dot.who - 1).toNat then 1 else 0) + (ofWho ((a : Int) + 1) l).length := by
      funext a
      by_cases ha : a = (o.dot.who - 1).toNat
      · rw [if_pos ha]
        have : ofWho ((a : Int) + 1) (o :: l) = o :: ofWho ((a : Int) + 1) l := by
          unfold ofWho
          rw [List.filter_cons_of_pos (by simp; omega)]
        rw [this, List.length_cons]; omega
      · rw [if_neg ha]
        have : ofWho ((a : Int) + 1) (o :: l) = ofWho ((a : Int) + 1) l := by
          unfold ofWho
          rw [List.filter_cons_of_neg (by simp; omega)]
        rw [this]; omega
    rw [e, sumTo_add, sumTo_one, if_pos (by omega), ih, List.length_cons]; omega
theorem part_sum {U : List LOp} {n : Nat} {d : LDoc} (hU : Univ U n) (hd : Part U d) : sumTo (fun a => cnt d ((a : Int) + 1)) n = d.ops.length :=
  ofWho_sum n d.ops (fun o ho => by
    have h1 := hU.who o (hd.sub o ho)
    have h2 := (op_ok (hU.good o (hd.sub o ho))).1
    unfold dotErr at h2
    split at h2
    · omega
    · omega)
/-- A letter comes. -/
theorem apply_lets {U : List LOp} {n : Nat} {d : LDoc} {o : LOp} (hU : Univ U n) (hw : ∀ x ∈ U, x.what = 1) (hp : ∀ x ∈ U, ∀ y ∈ U, x.place = y.place → x = y) (hd : Part U d) (hl : Lets d) (ho : o ∈ U) (hn : o.dot.n ≤ (cnt d o.dot.who : Int) + 1) (hc : d.ops.length < 300) :
    d.applyE o = 0 ∧ Lets (d.apply o) := by
  obtain ⟨a1, a2, a3, a4, a5⟩ := apply_part hU hd ho hn
  have hop := hU.good o ho
  obtain ⟨p1, p2, p3, p4, _⟩ := op_ok hop
  have h6 := hd.known hop
  have hv : vdErr d.known o.dot = 0 := by unfold vdErr; rw [if_neg (fun h => h hd.ok.known)]; exact p1
  by_cases hh : hasRes d.known o.dot = true
  · have hE : d.applyE o = 0 := by unfold LDoc.applyE; rw [if_neg (by omega), if_neg (by omega), if_pos hh]
    have hB : d.applyB o = false := by unfold LDoc.applyB; rw [hh, hop]; simp
    have e : d.apply o = d := by unfold LDoc.apply; rw [hB]; simp
    rw [e]
    exact ⟨hE, hl⟩
  have hh : hasRes d.known o.dot = false := by simpa using hh
  have hlt : nOf d.known o.dot < o.dot.n := by
    unfold hasRes at hh
    rw [hv] at hh
    simp at hh
    omega
  have hfresh : ∀ x ∈ d.ops, x.place ≠ o.place := fun x hx hxo => by
    have := hp x (hd.sub x hx) o ho hxo
    subst this
    have := (hd.ok.ops x hx).2
    rw [hh] at this; cases this
  have hat : hasAt d.book o.place = false := by
    cases hb : hasAt d.book o.place
    · rfl
    · obtain ⟨x, hx, _, hxo⟩ := (hd.says.here o.place).1 hb
      exact absurd hxo (hfresh x hx)
  have hw1 := hw o ho
  have hwe : writeErr d.book o.place o.letter = 0 := by
    unfold writeErr
    have hr : bookReady d.book o.place = 0 := by unfold bookReady; rw [if_neg (by have := bookErr_zero hd.ok.book; omega)]; exact p3
    rw [if_neg (by omega), if_neg (by rw [p4 hw1]; decide), if_pos hat]
    unfold putErr
    rw [if_neg (by have := hl.len; omega)]
  have hE : d.applyE o = 0 := by
    unfold LDoc.applyE
    rw [if_neg (by omega), if_neg (by omega), if_neg (by rw [hh]; simp)]
    have ha : addErr d.known o.dot = 0 := by
      unfold addErr
      rw [if_neg (by omega), if_neg (by omega), if_neg (by omega)]
    rw [if_neg (by omega), if_neg (by omega)]
    unfold LDoc.turnE
    rw [if_pos hw1]; exact hwe
  obtain ⟨q1, q2, q3, q4, q5⟩ := LDoc.apply_new hd.ok hE hlt
  have eo : (d.apply o).ops = d.ops ++ [o] := by rw [q5]
  have eb : (d.apply o).book = bookPut d.book (ahead d.book o.place) ⟨o.place, o.letter, false⟩ := by
    rw [q5]
    show (d.turn o).book = _
    unfold LDoc.turn
    rw [if_pos hw1, if_pos hwe]
    unfold writeRes
    rw [if_neg (by rw [hat]; simp)]
  have hal : ahead d.book o.place ≤ d.book.length := ahead_le _ _
  refine ⟨hE, ⟨fun x hx => ?_, fun x hx y hy hxy => ?_, ?_, fun x hx => ?_⟩⟩
  · exact hw x (a2.sub x hx)
  · exact hp x (a2.sub x hx) y (a2.sub y hy) hxy
  · rw [eo, eb, bookPut_len _ _ _ hal, List.length_append, hl.len]; rfl
  · rw [eb] at hx
    rcases mem_bookPut hx with hx | rfl
    · exact hl.seen x hx
    · have := p4 hw1
      unfold letterB at this
      simp at this
      unfold seenB
      simp
      omega
theorem run_lets {U : List LOp} {n : Nat} (hU : Univ U n) (hw : ∀ x ∈ U, x.what = 1) (hp : ∀ x ∈ U, ∀ y ∈ U, x.place = y.place → x = y) (hc : ∀ d, Part U d → d.ops.length < 300) : ∀ (l : List LOp) (d : LDoc) (s : Int → Nat), Part U d → Lets d → (∀ o ∈ l, o ∈ U) → Runs l s → (∀ i, s i ≤ cnt d i) →
    d.doE l = 0 ∧ Lets (d.doR l)
  | [], d, s => fun hd hl _ _ _ => ⟨rfl, hl⟩
  | o :: t, d, s => fun hd hl hlU hr hs => by
    have h0 := hr o.dot.who 0 o (by simp [ofWho])
    have hn : o.dot.n ≤ (cnt d o.dot.who : Int) + 1 := by have := hs o.dot.who; omega
    obtain ⟨a1, a2, a3, a4, a5⟩ := apply_part hU hd (hlU o (by simp)) hn
    obtain ⟨b1, b2⟩ := apply_lets hU hw hp hd hl (hlU o (by simp)) hn (hc d hd)
    unfold LDoc.doE LDoc.doR
    rw [if_neg (by omega), if_neg (by omega)]
    refine run_lets hU hw hp hc t (d.apply o) (fun i => if i = o.dot.who then s i + 1 else s i) a2 b2 (fun x hx => hlU x (by simp [hx])) (fun i k x hx => ?_) (fun i => ?_)
    · by_cases hi : i = o.dot.who
      · have e : ofWho i (o :: t) = o :: ofWho i t := by simp [ofWho, hi]
        have := hr i (k + 1) x (by rw [e]; simpa using hx)
        simp only [if_pos hi]
        push_cast at this ⊢
        omega
      · have e : ofWho i (o :: t) = ofWho i t := by
          unfold ofWho
          rw [List.filter_cons_of_neg (by simp; exact fun h => hi h.symm)]
        have := hr i k x (by rw [e]; exact hx)
        simp only [if_neg hi]
        omega
    · by_cases hi : i = o.dot.who
      · simp only [if_pos hi]; subst hi
        have := a4 b1
        omega
      · simp only [if_neg hi]; have := a3 i; have := hs i; omega
/-- A letter is typed at the end. -/
theorem type_lets {U : List LOp} {d : LDoc} (hd : Part U d) (hl : Lets d) {i : Nat} (hi : i < 4) (c : UInt8) (hk : d.ops.length < 200) (hcn : cnt d ((i : Int) + 1) = d.ops.length) :
    d.editE ⟨1, i, (d.ops.length : Nat), c.toNat⟩ = 1 ∨ d.editE ⟨1, i, (d.ops.length : Nat), c.toNat⟩ = 8 ∨ d.editE ⟨1, i, (d.ops.length : Nat), c.toNat⟩ = 0 ∧ Lets (d.editR ⟨1, i, (d.ops.length : Nat), c.toNat⟩) ∧ (d.editR ⟨1, i, (d.ops.length : Nat), c.toNat⟩).ops.length = d.ops.length + 1 ∧ cnt (d.editR ⟨1, i, (d.ops.length : Nat), c.toNat⟩) ((i : Int) + 1) = d.ops.length + 1 := by
  have hevE : d.evE ⟨1, i, (d.ops.length : Nat), c.toNat⟩ = if letterB (c.toNat : Int) = false then 1 else d.insE ((i : Int) + 1) (d.ops.length : Nat) (oneT c.toNat) := by unfold LDoc.evE; rw [if_pos rfl]
  have hevL : d.evL ⟨1, i, (d.ops.length : Nat), c.toNat⟩ = d.insR ((i : Int) + 1) (d.ops.length : Nat) (oneT c.toNat) := by unfold LDoc.evL; rw [if_pos rfl]
  unfold LDoc.editE LDoc.editR
  rw [hevL, hevE]
  by_cases hc : letterB (c.toNat : Int) = false
  · rw [if_pos hc]; exact .inl rfl
  rw [if_neg hc]
  have hwho : LDoc.whoE ((i : Int) + 1) = 0 := by unfold LDoc.whoE; rw [if_neg (by omega)]
  have hone : oneT (c.toNat : Int) = strOf [c] := by unfold oneT; simp [strOf]
  have hones : (oneT (c.toNat : Int)).size = 1 := by rw [hone]; rfl
  rcases LDoc.insE_cases hd.ok ((i : Int) + 1) (d.ops.length : Nat) (oneT c.toNat) with ⟨h, _⟩ | ⟨_, h, _⟩ | ⟨_, _, h | h⟩
  · exact absurd hwho h
  · exfalso
    apply h
    unfold insErr
    rw [if_neg (by omega), if_neg, if_neg]
    · rw [hl.text]; omega
    · rw [oneT_list]
      simp only [List.any_cons, List.any_nil, Bool.or_false, badC]
      simp
      simpa using hc
  · right; right
    have hdo := LDoc.ins_goes hd.ok h (by rw [LDoc.maker_n hd hwho, hcn, hones]; omega) (by rw [LDoc.maker_n hd hwho]; omega) (by rw [hones]; omega) (by rw [hones, hl.len]; omega)
    rw [h]
    simp only [ne_eq, not_true_eq_false, if_false]
    obtain ⟨a, b, e1, e2, e3, e4, e5, e6, e7, e8, e9⟩ := LDoc.ins_does hd.ok h hdo
    obtain ⟨n1, _⟩ := LDoc.ins_none hd.ok h hdo
    obtain ⟨y1, y2⟩ := LDoc.ins_each h
    obtain ⟨o, ho⟩ : ∃ o, d.insR ((i : Int) + 1) (d.ops.length : Nat) (oneT c.toNat) = [o] := by
      have := congrArg List.length y2
      rw [List.length_map, List.length_map, oneT_list] at this
      simp only [List.length_cons, List.length_nil] at this
      match hm : d.insR ((i : Int) + 1) (d.ops.length : Nat) (oneT c.toNat), this with
      | [o], _ => exact ⟨o, rfl⟩
    rw [ho] at hdo e3 e4 e7 n1 y1 y2 ⊢
    have hno : ∀ x ∈ d.ops, x.place ≠ o.place := fun x hx hxo => by
      have := (hd.says.here o.place).2 ⟨x, hx, .inl (hl.what x hx), hxo⟩
      rw [n1 o (by simp)] at this; cases this
    refine ⟨hdo, ⟨fun x hx => ?_, fun x hx y hy hxy => ?_, ?_, fun x hx => ?_⟩, ?_, ?_⟩
    · rw [e7] at hx
      rcases List.mem_append.1 hx with hx | hx
      · exact hl.what x hx
      · exact (y1 x hx).2.1
    · rw [e7] at hx hy
      rcases List.mem_append.1 hx with gx | gx <;> rcases List.mem_append.1 hy with gy | gy
      · exact hl.place x gx y gy hxy
      · simp at gy; subst gy; exact absurd hxy (hno x gx)
      · simp at gx; subst gx; exact absurd hxy.symm (hno y gy)
      · simp at gx gy; subst gx; subst gy; rfl
    · have h1 := hl.len
      rw [e1] at h1
      rw [e3, e7]
      simp only [List.length_append, List.length_map, List.length_cons, List.length_nil] at h1 ⊢
      omega
    · rw [e3] at hx
      have h1 := hl.seen
      rw [e1] at h1
      rcases List.mem_append.1 hx with hx | hx
      · rcases List.mem_append.1 hx with hx | hx
        · exact h1 x (by simp [hx])
        · simp at hx
          subst hx
          have := congrArg List.length e4
          unfold textL at this
          rw [List.length_map, oneT_list] at this
          simp only [List.map_cons, List.map_nil, List.length_cons, List.length_nil] at this
          cases hsb : seenB (leafOf o)
          · rw [List.filter_cons_of_neg (by rw [hsb]; simp)] at this; simp at this
          · rfl
      · exact h1 x (by simp [hx])
    · rw [e7]; simp
    · unfold cnt at hcn ⊢
      rw [e7, ofWho_add, List.length_append, hcn]
      have : ofWho ((i : Int) + 1) [o] = [o] := by simp [ofWho, (y1 o (by simp)).1]
      rw [this]; rfl
  · right; left
    rw [h]; simp
end Go.Proofs.YthfbjfocmnikaaaGreatDoor
/- (*net.Net).Same at any net, walked. Conditions: the documents are right. -/
namespace Go.Proofs.YthfbjfocmnikaaaGreatDoor
open Go.RowKit
set_option linter.unusedVariables false
set_option maxRecDepth 100000 in
set_option maxHeartbeats 8000000 in
theorem nsame_fn_f (w : World) (B1 B2 : Nat) (S1 S2 : List Nat) (p q f : Nat) (s1 s2 : LDoc) (D1 D2 : DLay) (h1 : DocIs w B1 S1 p s1 D1) (h2 : DocIs w B2 S2 q s2 D2) (ok1 : s1.Ok) (ok2 : s2.Ok) (hf : w.cell? ⟨f, 0, none⟩ = some (.pointer (some ⟨q, 0, none⟩))) (hfl : f < w.heap.size) (hbk : s1.book ≠ s2.book) :
    Calls Tryz.prog 110 #[.pointer (some ⟨p, 0, none⟩), .pointer (some ⟨f, 0, none⟩)] w (CheckPost w (.bool (!sameD s1 s2))) := by
  have HF : Hid (∀ W, Below w.heap.size w W → W.cell? ⟨f, 0, none⟩ = some (.pointer (some ⟨q, 0, none⟩))) := fun W hW => (hW.cell (p := ⟨f, 0, none⟩) hfl).trans hf
  have HP1 := Lib.hid (fun W (hW : Below w.heap.size w W) => book_doc W B1 S1 p s1 D1 (h1.below hW) ok1)
  have HQ1 := Lib.hid (fun W (hW : Below w.heap.size w W) => book_doc W B2 S2 q s2 D2 (h2.below hW) ok2)
  have HP2 := Lib.hid (fun W (hW : Below w.heap.size w W) => marks_doc W B1 S1 p s1 D1 (h1.below hW) ok1)
  have HQ2 := Lib.hid (fun W (hW : Below w.heap.size w W) => marks_doc W B2 S2 q s2 D2 (h2.below hW) ok2)
  unfold RowPost at HP1 HQ1 HP2 HQ2
  have n1 := ok1.book.few
  have n2 := ok2.book.few
  have n3 := ok1.marks.few
  have n4 := ok2.marks.few
  have HBc : Hid (Below w.heap.size w w) := Below.refl _ _
  have HEL := Lib.hid (fun (W : World) (A G : Option Addr) (ca cg : Nat) h1 h2 => EqLeafs.eqv W A G ca cg s1.book s2.book h1 h2 (by omega) (by omega))
  have HEM := Lib.hid (fun (W : World) (A G : Option Addr) (ca cg : Nat) h1 h2 => EqMarks.eqv W A G ca cg s1.marks s2.marks h1 h2 (by omega) (by omega))
  unfold SamePost at HEL HEM
  have HRES : Hid (sameD s1 s2 = (decide (s1.book = s2.book) && decide (s1.marks = s2.marks))) := rfl
  rw [HRES.out]
  clear h1 h2 ok1 ok2 HRES n1 n2 n3 n4 hfl
  generalize s1.book = l1 at *
  generalize s2.book = l2 at *
  generalize s1.marks = m1 at *
  generalize s2.marks = m2 at *
  obtain ⟨u, hu⟩ : ∃ u, u = decide (l1 = l2) := ⟨_, rfl⟩
  have huv : false = u := by rw [hu, decide_eq_false hbk]
  clear hbk
  obtain ⟨v, hv⟩ : ∃ v, v = decide (m1 = m2) := ⟨_, rfl⟩
  rw [← hu, ← hv]
  have HEL2 := Lib.hid HEL.out
  have HEM2 := Lib.hid HEM.out
  rw [← hu] at HEL2
  rw [← hv] at HEM2
  clear hu hv HEL HEM
  go_enter Tryz.func110, Tryz.ntmps110
  obtain rfl := huv
  go_wp2_with fail
  refine wp_region_held_drew (S := (fun W' => W'.cell? ⟨f, 0, none⟩ = some (.pointer (some ⟨q, 0, none⟩)))) (by kernel_rfl) hf (fun _ => ?_)
  refine wpAnyH_take (i := 0) (v := .pointer (some ⟨p, 0, none⟩)) rfl (by kernel_rfl) (by kernel_rfl) (by kernel_rfl) (fun _ _ _ h => h) (Or.inl ⟨by kernel_rfl, fun w hS => by go_simp⟩) hf ?_
  simp only [List.getElem_toArray, List.getElem_cons_succ, List.getElem_cons_zero, Act.put, List.setIfInBounds_toArray, List.set_cons_zero, List.set_cons_succ]
  refine wpAnyH_take (i := 2) (v := .pointer (some ⟨q, 0, none⟩)) rfl (by kernel_rfl) (by kernel_rfl) (by kernel_rfl) (fun _ _ _ h => h) (Or.inl ⟨by kernel_rfl, fun w hS => by go_simp⟩) hf ?_
  simp only [List.getElem_toArray, List.getElem_cons_succ, List.getElem_cons_zero, Act.put, List.setIfInBounds_toArray, List.set_cons_zero, List.set_cons_succ]
  refine wpAnyH_ready (rs := [1]) (by kernel_rfl) (by simp) ?_
  refine AllReadyH.cons rfl (fun K hK => ?_) AllReadyH.nil
  rw [if_pos (by rfl)]
  go_simp
  refine (HP1.out _ (by first | exact HBc.out | exact below_drewN HBc.out _ | exact HBc.out.drew)).mono ?_
  rintro r w3 ⟨V1, c1, rfl, hO, hb⟩
  have hb2 : Below w.heap.size w w3 := by first | exact HBc.out.trans (hb.mono HBc.out.size) | exact HBc.out.trans ((below_of_drew hb).mono HBc.out.size) | exact HBc.out.trans ((below_of_drewN hb).mono HBc.out.size)
  have HR1 := Lib.hid hO.reads
  clear hf HBc
  have HBc := Lib.hid hb2
  have hf := HF.out _ hb2
  clear hO hb hb2
  refine hK.out _ _ hf (fun _ => ?_)
  clear hK K
  try simp only [List.getElem_toArray, List.getElem_cons_succ, List.getElem_cons_zero, Act.put, List.setIfInBounds_toArray, List.set_cons_zero, List.set_cons_succ]
  refine wpAnyH_ready (rs := [3]) (by kernel_rfl) (by simp) ?_
  refine AllReadyH.cons rfl (fun K hK => ?_) AllReadyH.nil
  rw [if_pos (by rfl)]
  go_simp
  refine (HQ1.out _ (by first | exact HBc.out | exact below_drewN HBc.out _ | exact HBc.out.drew)).mono ?_
  rintro r w4 ⟨V2, c2, rfl, hO, hb⟩
  have hb2 : Below w.heap.size w w4 := by first | exact HBc.out.trans (hb.mono HBc.out.size) | exact HBc.out.trans ((below_of_drew hb).mono HBc.out.size) | exact HBc.out.trans ((below_of_drewN hb).mono HBc.out.size)
  have HR2 := Lib.hid hO.reads
  have hb3 : Below w3.heap.size w3 w4 := by first | exact hb | exact below_of_drew hb | exact below_of_drewN hb
  have HR1n := Lib.hid ((HR1.out.below hb3).more hb3.size)
  clear hb3
  clear hf HBc
  have HBc := Lib.hid hb2
  have hf := HF.out _ hb2
  clear hO hb hb2
  refine hK.out _ _ hf (fun _ => ?_)
  clear hK K
  try simp only [List.getElem_toArray, List.getElem_cons_succ, List.getElem_cons_zero, Act.put, List.setIfInBounds_toArray, List.set_cons_zero, List.set_cons_succ]
  refine wpAnyH_ready (rs := [4]) (by kernel_rfl) (by simp) ?_
  refine AllReadyH.cons rfl (fun K hK => ?_) AllReadyH.nil
  rw [if_pos (by rfl)]
  go_simp
  refine (HEL2.out _ V1 V2 c1 c2 (by first | exact HR1n.out | exact HR1n.out.drew | exact HR1n.out.drewN _) (by first | exact HR2.out | exact HR2.out.drew | exact HR2.out.drewN _)).mono ?_
  rintro r w5 ⟨rfl, hb⟩
  have hb2 : Below w.heap.size w w5 := by first | exact HBc.out.trans (hb.mono HBc.out.size) | exact HBc.out.trans ((below_of_drew hb).mono HBc.out.size) | exact HBc.out.trans ((below_of_drewN hb).mono HBc.out.size)
  clear hf HBc
  have HBc := Lib.hid hb2
  have hf := HF.out _ hb2
  clear hb hb2
  refine hK.out _ _ hf (fun _ => ?_)
  clear hK K
  try simp only [List.getElem_toArray, List.getElem_cons_succ, List.getElem_cons_zero, Act.put, List.setIfInBounds_toArray, List.set_cons_zero, List.set_cons_succ]
  refine wpAnyH_take (i := 5) (v := .bool true) rfl (by kernel_rfl) (by kernel_rfl) (by kernel_rfl) (fun _ _ _ h => h) (Or.inl ⟨by kernel_rfl, fun w hS => by go_simp⟩) hf ?_
  simp only [List.getElem_toArray, List.getElem_cons_succ, List.getElem_cons_zero, Act.put, List.setIfInBounds_toArray, List.set_cons_zero, List.set_cons_succ]
  refine wpAnyH_take (i := 6) (v := .bool true) rfl (by kernel_rfl) (by kernel_rfl) (by kernel_rfl) (fun _ _ _ h => h) (Or.inl ⟨by kernel_rfl, fun w hS => by go_simp⟩) hf ?_
  simp only [List.getElem_toArray, List.getElem_cons_succ, List.getElem_cons_zero, Act.put, List.setIfInBounds_toArray, List.set_cons_zero, List.set_cons_succ]
  refine wpAnyH_take (i := 7) (v := undef) rfl (by kernel_rfl) (by kernel_rfl) (by kernel_rfl) (fun _ _ _ h => h) (Or.inr ⟨by kernel_rfl, rfl⟩) hf ?_
  simp only [List.getElem_toArray, List.getElem_cons_succ, List.getElem_cons_zero, Act.put, List.setIfInBounds_toArray, List.set_cons_zero, List.set_cons_succ]
  refine wpAnyH_take (i := 8) (v := undef) rfl (by kernel_rfl) (by kernel_rfl) (by kernel_rfl) (fun _ _ _ h => h) (Or.inr ⟨by kernel_rfl, rfl⟩) hf ?_
  simp only [List.getElem_toArray, List.getElem_cons_succ, List.getElem_cons_zero, Act.put, List.setIfInBounds_toArray, List.set_cons_zero, List.set_cons_succ]
  refine wpAnyH_take (i := 9) (v := undef) rfl (by kernel_rfl) (by kernel_rfl) (by kernel_rfl) (fun _ _ _ h => h) (Or.inr ⟨by kernel_rfl, rfl⟩) hf ?_
  simp only [List.getElem_toArray, List.getElem_cons_succ, List.getElem_cons_zero, Act.put, List.setIfInBounds_toArray, List.set_cons_zero, List.set_cons_succ]
  refine wpAnyH_take (i := 10) (v := undef) rfl (by kernel_rfl) (by kernel_rfl) (by kernel_rfl) (fun _ _ _ h => h) (Or.inr ⟨by kernel_rfl, rfl⟩) hf ?_
  simp only [List.getElem_toArray, List.getElem_cons_succ, List.getElem_cons_zero, Act.put, List.setIfInBounds_toArray, List.set_cons_zero, List.set_cons_succ]
  refine wpAnyH_take (i := 11) (v := undef) rfl (by kernel_rfl) (by kernel_rfl) (by kernel_rfl) (fun _ _ _ h => h) (Or.inr ⟨by kernel_rfl, rfl⟩) hf ?_
  simp only [List.getElem_toArray, List.getElem_cons_succ, List.getElem_cons_zero, Act.put, List.setIfInBounds_toArray, List.set_cons_zero, List.set_cons_succ]
  refine wpAnyH_take (i := 12) (v := undef) rfl (by kernel_rfl) (by kernel_rfl) (by kernel_rfl) (fun _ _ _ h => h) (Or.inr ⟨by kernel_rfl, rfl⟩) hf ?_
  simp only [List.getElem_toArray, List.getElem_cons_succ, List.getElem_cons_zero, Act.put, List.setIfInBounds_toArray, List.set_cons_zero, List.set_cons_succ]
  refine wpAnyH_take (i := 13) (v := .bool true) rfl (by kernel_rfl) (by kernel_rfl) (by kernel_rfl) (fun _ _ _ h => h) (Or.inl ⟨by kernel_rfl, fun w hS => by go_simp⟩) hf ?_
  simp only [List.getElem_toArray, List.getElem_cons_succ, List.getElem_cons_zero, Act.put, List.setIfInBounds_toArray, List.set_cons_zero, List.set_cons_succ]
  refine wpAnyH_take (i := 14) (v := .bool true) rfl (by kernel_rfl) (by kernel_rfl) (by kernel_rfl) (fun _ _ _ h => h) (Or.inl ⟨by kernel_rfl, fun w hS => by go_simp⟩) hf ?_
  simp only [List.getElem_toArray, List.getElem_cons_succ, List.getElem_cons_zero, Act.put, List.setIfInBounds_toArray, List.set_cons_zero, List.set_cons_succ]
  refine wpAnyH_done (by kernel_rfl) ?_ _
  go_wp2_with fail
  go_ret
  exact ⟨rfl, HBc.out⟩
theorem nsame_fn (w : World) (B1 B2 : Nat) (S1 S2 : List Nat) (p q f : Nat) (s1 s2 : LDoc) (D1 D2 : DLay) (h1 : DocIs w B1 S1 p s1 D1) (h2 : DocIs w B2 S2 q s2 D2) (ok1 : s1.Ok) (ok2 : s2.Ok) (hf : w.cell? ⟨f, 0, none⟩ = some (.pointer (some ⟨q, 0, none⟩))) (hfl : f < w.heap.size) :
    Calls Tryz.prog 110 #[.pointer (some ⟨p, 0, none⟩), .pointer (some ⟨f, 0, none⟩)] w (CheckPost w (.bool (!sameD s1 s2))) := by
  by_cases hbk : s1.book = s2.book
  · exact nsame_fn_t w B1 B2 S1 S2 p q f s1 s2 D1 D2 h1 h2 ok1 ok2 hf hfl hbk
  · exact nsame_fn_f w B1 B2 S1 S2 p q f s1 s2 D1 D2 h1 h2 ok1 ok2 hf hfl hbk
def NIdxLoop2 (w : World) (N : LNet) (n : Nat) (i : Value) (wr : World) : Prop := ∃ k : Nat, k ≤ n ∧ i = .int .i64 (k : Nat) ∧ Hid (Below w.heap.size w wr) ∧ Hid (∀ j, j < k → sameD (N.doc j) (N.doc 0) = true)
/-- The first that is another: there is one just if not all are the same. -/
def NIdxPost (w : World) (N : LNet) (n : Nat) (e : Ending) (w' : World) : Prop := ∃ r : Int, e = .returned (.int .i64 r) ∧ (0 ≤ r ↔ ∃ j, j < n ∧ sameD (N.doc j) (N.doc 0) = false) ∧ -1 ≤ r ∧ Below w.heap.size w w'
set_option maxRecDepth 100000 in
set_option maxHeartbeats 4000000 in
theorem nidx_any (w : World) (B : Nat) (S : List Nat) (b : Nat) (N : LNet) (ds : List NodeAt) (A1 : Option Addr) (c1 : Nat) (A2 : Option Addr) (c2 : Nat) (h : NetAt w B S b N ds A1 c1 A2 c2) (ok : N.Ok)
    (f p0 : Nat) (h0 : 0 < ds.length) (hp0 : ds[0].b = p0) (hf : w.cell? ⟨f, 0, none⟩ = some (.pointer (some ⟨p0, 0, none⟩))) (hfl : f < w.heap.size) :
    Calls Tryz.prog 171 #[.slice A1 ds.length c1, .func (Fn.func 110) #[] #[.pointer (some ⟨f, 0, none⟩)]] w (NIdxPost w N ds.length) := by
  have HF : Hid (∀ W, Below w.heap.size w W → W.cell? ⟨f, 0, none⟩ = some (.pointer (some ⟨p0, 0, none⟩))) := fun W hW => (hW.cell (p := ⟨f, 0, none⟩) hfl).trans hf
  have HFN : Hid (∀ W, Below w.heap.size w W → ∀ k (hk : k < ds.length), Calls Tryz.prog 110 #[.pointer (some ⟨ds[k].b, 0, none⟩), .pointer (some ⟨f, 0, none⟩)] W (CheckPost W (.bool (!sameD (N.doc k) (N.doc 0))))) := fun W hW k hk => by
    have hA := h.below hW
    exact nsame_fn W B B _ _ _ p0 f _ _ _ _ (hA.nodes k hk) (by rw [← hp0]; exact hA.nodes 0 h0) (ok.doc k) (ok.doc 0) (HF.out W hW) (Nat.lt_of_lt_of_le hfl hW.size)
  obtain ⟨g, rfl, _⟩ := h.ptr h0
  have h4 := (h.lt4 ok).2
  have HPT : Hid (∀ W, Below w.heap.size w W → ∀ k (hk : k < ds.length), W.cell? ⟨g, k, none⟩ = some (.pointer (some ⟨ds[k].b, 0, none⟩))) := fun W hW k hk => by
    obtain ⟨g', e', hp⟩ := (h.below hW).ptr hk
    injection e' with e'
    injection e' with e'
    subst e'
    exact hp
  clear h hf hp0
  go_enter Tryz.func171, Tryz.ntmps171
  go_wp2_with fail
  go_loopw [8] (fun i wr => NIdxLoop2 w N ds.length i wr) (fun i _ => ds.length - (intOf i).toNat)
  case atStart => exact ⟨0, by omega, rfl, Below.refl _ _, fun j hj => by omega⟩
  case round =>
    obtain ⟨k, hk, rfl, HBr, HN⟩ := hrel
    by_cases hkn : k < ds.length
    · have hlt : (k : Int) < (ds.length : Int) := by omega
      have hk0 : (0 : Int) ≤ (k : Int) := by omega
      have cp := HPT.out wr HBr.out k hkn
      have HC := Lib.hid (HFN.out wr HBr.out k hkn)
      generalize ds[k].b = pk at *
      cases hs : sameD (N.doc k) (N.doc 0) with
      | true =>
        rw [hs] at HC
        have HN2 : Hid (∀ j, j < k + 1 → sameD (N.doc j) (N.doc 0) = true) := fun j hj => by
          rcases Nat.lt_or_ge j k with h | h
          · exact HN.out j h
          · have : j = k := by omega
            subst this; exact hs
        clear hs
        go_wp2_with fail
        refine HC.out.mono ?_
        rintro e w1 ⟨rfl, hb1⟩
        have HB1 := Lib.hid (HBr.out.trans (hb1.mono HBr.out.size))
        clear hb1 cp
        rw [show (!true) = false from rfl]
        go_wp2_with fail
        go_roundw
        case rel => exact ⟨k + 1, by omega, by go_num, HB1, HN2⟩
        case measure => simp [intOf]; omega
      | false =>
        rw [hs] at HC
        have HR : Hid (0 ≤ (k : Int) ↔ ∃ j, j < ds.length ∧ sameD (N.doc j) (N.doc 0) = false) := ⟨fun _ => ⟨k, hkn, hs⟩, fun _ => by omega⟩
        clear hs
        go_wp2_with fail
        refine HC.out.mono ?_
        rintro e w1 ⟨rfl, hb1⟩
        have HB1 := Lib.hid (HBr.out.trans (hb1.mono HBr.out.size))
        clear hb1 cp
        rw [show (!false) = true from rfl]
        go_wp2_with fail
        go_ret
        exact ⟨(k : Int), rfl, HR.out, by omega, HB1.out⟩
    · have k1 : ¬ (k : Int) < (ds.length : Int) := by omega
      have HR : Hid (0 ≤ (-1 : Int) ↔ ∃ j, j < ds.length ∧ sameD (N.doc j) (N.doc 0) = false) := ⟨fun h => by omega, fun ⟨j, hj, hs⟩ => by have := HN.out j (by omega); rw [hs] at this; cases this⟩
      go_wp2_with fail
      go_ret
      exact ⟨-1, rfl, HR.out, by omega, HBr.out⟩
set_option maxRecDepth 100000 in
theorem ncont_any (w : World) (B : Nat) (S : List Nat) (b : Nat) (N : LNet) (ds : List NodeAt) (A1 : Option Addr) (c1 : Nat) (A2 : Option Addr) (c2 : Nat) (h : NetAt w B S b N ds A1 c1 A2 c2) (ok : N.Ok)
    (f p0 : Nat) (h0 : 0 < ds.length) (hp0 : ds[0].b = p0) (hf : w.cell? ⟨f, 0, none⟩ = some (.pointer (some ⟨p0, 0, none⟩))) (hfl : f < w.heap.size) :
    Calls Tryz.prog 109 #[.slice A1 ds.length c1, .func (Fn.func 110) #[] #[.pointer (some ⟨f, 0, none⟩)]] w (CheckPost w (.bool (!N.sameB))) := by
  have HI := Lib.hid (nidx_any w B S b N ds A1 c1 A2 c2 h ok f p0 h0 hp0 hf hfl)
  have HS : Hid (N.sameB = true ↔ ¬ ∃ j, j < ds.length ∧ sameD (N.doc j) (N.doc 0) = false) := by
    show _ ↔ _
    unfold LNet.sameB
    rw [List.all_eq_true]
    constructor
    · rintro hh ⟨j, hj, hs⟩
      have hj2 : j < N.docs.length := by rw [← h.len]; exact hj
      have := hh (N.docs[j]) (List.getElem_mem hj2)
      rw [sameD_iff, LNet.doc_get hj2] at hs
      rw [hs] at this
      cases this
    · intro hh d hd
      obtain ⟨j, hj, rfl⟩ := List.getElem_of_mem hd
      cases hs : decide (N.docs[j].book = (N.doc 0).book ∧ N.docs[j].marks = (N.doc 0).marks)
      · exact absurd ⟨j, by rw [h.len]; exact hj, by rw [sameD_iff, LNet.doc_get hj]; exact hs⟩ hh
      · rfl
  clear h hf hp0
  go_enter Tryz.func109, Tryz.ntmps109
  go_wp2_with fail
  refine HI.out.mono ?_
  rintro e w1 ⟨r, rfl, hr, hr1, hb⟩
  have HB := Lib.hid hb
  cases hsb : N.sameB with
  | true =>
    have hn : ¬ 0 ≤ r := fun hh => (HS.out.1 hsb) (hr.1 hh)
    have hn2 : r = -1 := by omega
    subst hn2
    have HSB := Lib.hid hsb
    clear hb hr hr1 hsb hn
    go_wp2_with fail
    go_ret
    exact ⟨by rw [HSB.out]; rfl, HB.out⟩
  | false =>
    have hn : 0 ≤ r := by
      apply Classical.byContradiction
      intro hh
      have : N.sameB = true := HS.out.2 (fun hx => hh (hr.2 hx))
      rw [hsb] at this; cases this
    have hn2 : r ≥ 0 := hn
    have HSB := Lib.hid hsb
    clear hb hr hr1 hsb
    go_wp2_with fail
    go_ret
    exact ⟨by rw [HSB.out]; rfl, HB.out⟩
set_option maxRecDepth 100000 in
theorem nsame_any (w : World) (B : Nat) (S : List Nat) (b : Nat) (N : LNet) (h : NetIs w B S b N) (ok : N.Ok) :
    Calls Tryz.prog 52 #[.pointer (some ⟨b, 0, none⟩)] w (CheckPost w (.bool N.sameB)) := by
  obtain ⟨ds, A1, c1, A2, c2, h⟩ := h
  have h0 : 0 < ds.length := (h.lt4 ok).1
  obtain ⟨g, rfl, hp⟩ := h.ptr h0
  obtain ⟨p0, hp0⟩ : ∃ p0, ds[0].b = p0 := ⟨_, rfl⟩
  rw [hp0] at hp
  have q0 := h.cells.1
  have k1 : (0 : Int) < (ds.length : Int) := by omega
  have hb1 : Below w.heap.size w (w.alloc (.cells #[.pointer (some ⟨p0, 0, none⟩)] 37)) := (Below.refl _ _).alloc (Nat.le_refl _) _
  have hA := h.below hb1
  have HC := Lib.hid (ncont_any _ B S b N ds _ c1 A2 c2 hA ok w.heap.size p0 h0 hp0 (by rw [(Blk.new w _ _).cell]; rfl) (by simp))
  have HB1 := Lib.hid hb1
  have q1 : (w.alloc (.cells #[.pointer (some ⟨p0, 0, none⟩)] 37)).cell? ⟨b, 0, none⟩ = some (.slice (some ⟨g, 0, none⟩) ds.length c1) := hA.cells.1
  generalize N.sameB = sb at *
  clear h hA ok hb1 hp0
  go_enter Tryz.func52, Tryz.ntmps52
  go_wp2_with fail
  refine HC.out.mono ?_
  rintro e w1 ⟨rfl, hb⟩
  have HB := Lib.hid (HB1.out.trans (hb.mono HB1.out.size))
  clear hb
  cases sb with
  | true =>
    rw [show (!true) = false from rfl]
    go_wp2_with fail
    go_ret
    exact ⟨rfl, HB.out⟩
  | false =>
    rw [show (!false) = true from rfl]
    go_wp2_with fail
    go_ret
    exact ⟨rfl, HB.out⟩
end Go.Proofs.YthfbjfocmnikaaaGreatDoor
/- Nodes that have typed send each to each: plain. Conditions: none. -/
namespace Go.Proofs.YthfbjfocmnikaaaGreatDoor
open Go.RowKit
set_option linter.unusedVariables false
/-- Each node has typed so many letters; nothing is under way. -/
structure TNet (U : List LOp) (N : LNet) (T : Nat → Nat) : Prop where
  fair : Fair U N
  under : N.under = []
  lets : ∀ i, i < N.docs.length → Lets (N.doc i)
  many : ∀ i, i < N.docs.length → cnt (N.doc i) ((i : Int) + 1) = T i
  few : ∀ i, T i ≤ 20
namespace TNet
variable {U : List LOp} {N : LNet} {T : Nat → Nat}
theorem own_of (h : TNet U N T) {x : LOp} (hx : x ∈ U) : ∃ a, a < N.docs.length ∧ x.dot.who = (a : Int) + 1 ∧ x ∈ (N.doc a).ops := by
  have h1 := h.fair.univ.who x hx
  have h2 := (op_ok (h.fair.univ.good x hx)).1
  unfold dotErr at h2
  split at h2
  · have h3 : (x.dot.who - 1).toNat < N.docs.length := by omega
    exact ⟨_, h3, by omega, h.fair.own _ h3 x hx (by omega)⟩
  · omega
theorem what (h : TNet U N T) : ∀ x ∈ U, x.what = 1 := fun x hx => by
  obtain ⟨a, ha, _, hm⟩ := h.own_of hx
  exact (h.lets a ha).what x hm
theorem place (h : TNet U N T) : ∀ x ∈ U, ∀ y ∈ U, x.place = y.place → x = y := fun x hx y hy hxy => by
  obtain ⟨a, ha, wa, ma⟩ := h.own_of hx
  obtain ⟨b, hb, wb, mb⟩ := h.own_of hy
  have h1 := h.fair.univ.write x hx (h.what x hx)
  have h2 := h.fair.univ.write y hy (h.what y hy)
  rw [hxy] at h1
  have : a = b := by omega
  subst this
  exact (h.lets a ha).place x ma y mb hxy
theorem bound (h : TNet U N T) : ∀ d, Part U d → d.ops.length ≤ 80 := fun d hd => by
  have h1 := part_sum h.fair.univ hd
  have h2 := sumTo_le (c := 20) (f := fun a => cnt d ((a : Int) + 1)) N.docs.length (fun a ha => by
    have := h.fair.own_most ha hd
    have := h.many a ha
    have := h.few a
    show cnt d ((a : Int) + 1) ≤ 20
    omega)
  have := h.fair.ok.some
  omega
theorem mesh (h : TNet U N T) {i j : Nat} (hi : i < N.docs.length) (hj : j < N.docs.length) (hij : i ≠ j) :
    N.doE (sndE i j) = 0 ∧ (N.do_ (sndE i j)).doE dlv = 0 ∧ TNet U ((N.do_ (sndE i j)).do_ dlv) T ∧ ((N.do_ (sndE i j)).do_ dlv).docs.length = N.docs.length ∧
      (∀ k w, cnt (N.doc k) w ≤ cnt (((N.do_ (sndE i j)).do_ dlv).doc k) w) ∧ (∀ w, cnt (N.doc i) w ≤ cnt (((N.do_ (sndE i j)).do_ dlv).doc j) w) := by
  obtain ⟨m1, m2, m3, m4, m5, m6, m7, m8, L, l1, l2, l3, l4⟩ := h.fair.mesh h.under hi hj hij
  obtain ⟨r1, r2⟩ := run_lets h.fair.univ h.what h.place (fun d hd => by have := h.bound d hd; omega) L (N.doc j) (cnt (N.doc j)) (h.fair.part j hj) (h.lets j hj) l3 l4 (fun k => Nat.le_refl _)
  have h0 : (N.do_ (sndE i j)).doE dlv = 0 := by rw [l1]; exact r1
  refine ⟨m1, h0, ⟨m5, m3, fun k hk => ?_, fun k hk => ?_, h.few⟩, m4, m6, m8 h0⟩
  · rw [m4] at hk
    by_cases hkj : k = j
    · subst hkj; rw [l2]; exact r2
    · rw [m7 k hkj]; exact h.lets k hk
  · have hk2 := hk
    rw [m4] at hk
    have a1 := m6 k ((k : Int) + 1)
    have a2 := h.fair.own_most hk (m5.part k hk2)
    have a3 := h.many k hk
    omega
end TNet
/-- What has come already, of what each sends to each: all of the nodes before i, and of i to those before j. -/
def Came (N : LNet) (i j : Nat) : Prop := ∀ a b, a < N.docs.length → b < N.docs.length → (a < i ∨ a = i ∧ b < j) → cnt (N.doc b) ((a : Int) + 1) = cnt (N.doc a) ((a : Int) + 1)
theorem Came.row {N : LNet} {i : Nat} (h : Came N i N.docs.length) : Came N (i + 1) 0 := fun a b ha hb hh => h a b ha hb (by omega)
theorem Came.same {N : LNet} {i : Nat} (h : Came N i i) : Came N i (i + 1) := fun a b ha hb hh => by
  by_cases hab : a = i ∧ b = i
  · obtain ⟨rfl, rfl⟩ := hab; rfl
  · exact h a b ha hb (by omega)
/-- One more has come. -/
theorem Came.step {U : List LOp} {N M : LNet} {i j : Nat} (h : Came N i j) (hf : Fair U N) (hm : Fair U M) (hl : M.docs.length = N.docs.length) (hi : i < N.docs.length) (h1 : ∀ k w, cnt (N.doc k) w ≤ cnt (M.doc k) w) (h2 : ∀ w, cnt (N.doc i) w ≤ cnt (M.doc j) w) : Came M i (j + 1) := fun a b ha hb hh => by
  rw [hl] at ha hb
  have e1 := h1 a ((a : Int) + 1)
  have e2 := hf.own_most ha (hm.part a (by omega))
  have e3 := hm.cnt_own (a := a) (b := b) (by omega) (by omega)
  by_cases hab : a = i ∧ b = j
  · obtain ⟨rfl, rfl⟩ := hab
    have := h2 ((a : Int) + 1)
    omega
  · have := h a b ha hb (by omega)
    have := h1 b ((a : Int) + 1)
    omega
theorem TNet.fin {U : List LOp} {N : LNet} {T : Nat → Nat} (h : TNet U N T) (hc : Came N N.docs.length 0) : N.sameB = true ∧ (textOf (N.doc 0).book).size = sumTo T N.docs.length := by
  have hall : ∀ a b, a < N.docs.length → b < N.docs.length → cnt (N.doc b) ((a : Int) + 1) = cnt (N.doc a) ((a : Int) + 1) := fun a b ha hb => hc a b ha hb (.inl ha)
  refine ⟨h.fair.sameB hall, ?_⟩
  have h1 := h.fair.ok.some
  rw [(h.lets 0 (by omega)).text, ← part_sum h.fair.univ (h.fair.part 0 (by omega))]
  exact sumTo_congr _ fun a ha => by rw [hall a 0 ha (by omega), h.many a ha]
/-- Nodes that are typing: so many letters each. -/
structure Typing (U : List LOp) (N : LNet) (n : Nat) (T : Nat → Nat) : Prop where
  fair : Fair U N
  under : N.under = []
  len : N.docs.length = n
  lets : ∀ i, i < n → Lets (N.doc i)
  many : ∀ i, i < n → cnt (N.doc i) ((i : Int) + 1) = T i
  ops : ∀ i, i < n → (N.doc i).ops.length = T i
namespace Typing
variable {U : List LOp} {N : LNet} {n : Nat} {T : Nat → Nat}
theorem new {n : Nat} (h1 : 1 ≤ n) (h4 : n ≤ 4) : Typing [] (LNet.new n) n (fun _ => 0) :=
  ⟨Fair.new h1 h4, rfl, by simp [LNet.new], fun i _ => by rw [LNet.doc_new]; exact Lets.new, fun i _ => by rw [LNet.doc_new]; rfl, fun i _ => by rw [LNet.doc_new]; rfl⟩
theorem type (h : Typing U N n T) {i : Nat} (hi : i < n) (ht : T i < 20) (c : UInt8) :
    N.doE ⟨1, i, (T i : Nat), c.toNat⟩ = 1 ∨ N.doE ⟨1, i, (T i : Nat), c.toNat⟩ = 8 ∨ N.doE ⟨1, i, (T i : Nat), c.toNat⟩ = 0 ∧ ∃ V, Typing V (N.do_ ⟨1, i, (T i : Nat), c.toNat⟩) n (fun a => if a = i then T i + 1 else T a) := by
  have hn4 := h.fair.ok.some
  have hl := h.len
  have hik : i < N.docs.length := by omega
  have e1 : ∀ e : LEv, e.what = 1 → e.a = (i : Int) → N.doE e = (N.doc i).editE e ∧ N.do_ e = { N with docs := N.docs.set i ((N.doc i).editR e) } := fun e hw ha => by
    have hnb : N.nodeB e.a = true := LNet.nodeB_iff.2 (by omega)
    constructor
    · unfold LNet.doE LNet.editE
      rw [if_pos (show LNet.editB e from .inl hw), if_neg (by rw [hnb]; simp), ha]
      simp
    · unfold LNet.do_ LNet.edit
      rw [if_pos (show LNet.editB e from .inl hw), if_neg (by rw [hnb]; simp), ha]
      simp
  obtain ⟨E1, E2⟩ := e1 ⟨1, i, (T i : Nat), c.toNat⟩ rfl rfl
  have ho := h.ops i hi
  have hlt := type_lets (h.fair.part i hik) (h.lets i hi) (show i < 4 by omega) c (by omega) (by rw [h.many i hi, ho])
  rw [ho] at hlt
  rw [E1]
  rcases hlt with h1 | h1 | ⟨h1, h2, h3, h4⟩
  · exact .inl h1
  · exact .inr (.inl h1)
  · refine .inr (.inr ⟨h1, ?_⟩)
    obtain ⟨V, hV, _⟩ := h.fair.do_ ⟨1, i, (T i : Nat), c.toNat⟩
    refine ⟨V, hV, ?_, ?_, ?_, ?_, ?_⟩
    · rw [E2]; exact h.under
    · rw [E2]; simp only [List.length_set]; exact hl
    · intro k hk
      rw [E2, LNet.doc_set hik]
      split
      · exact h2
      · exact h.lets k hk
    · intro k hk
      rw [E2, LNet.doc_set hik]
      split
      · rename_i hki; subst hki; exact h4
      · exact h.many k hk
    · intro k hk
      rw [E2, LNet.doc_set hik]
      split
      · exact h3
      · exact h.ops k hk
theorem net (h : Typing U N n T) (hf : ∀ i, T i ≤ 20) : TNet U N T :=
  ⟨h.fair, h.under, fun i hi => h.lets i (by rw [h.len] at hi; exact hi), fun i hi => h.many i (by rw [h.len] at hi; exact hi), hf⟩
end Typing
end Go.Proofs.YthfbjfocmnikaaaGreatDoor
/- All meet: plain. Conditions: none. -/
namespace Go.Proofs.YthfbjfocmnikaaaGreatDoor
open Go.RowKit
set_option linter.unusedVariables false
/-- What has come stays. -/
theorem Came.keep {U : List LOp} {N M : LNet} {i j : Nat} (h : Came N i j) (hf : Fair U N) (hm : Fair U M) (hl : M.docs.length = N.docs.length) (h1 : ∀ k w, cnt (N.doc k) w ≤ cnt (M.doc k) w) : Came M i j := fun a b ha hb hh => by
  rw [hl] at ha hb
  have e1 := h1 a ((a : Int) + 1)
  have e2 := hf.own_most ha (hm.part a (by omega))
  have e3 := hm.cnt_own (a := a) (b := b) (by omega) (by omega)
  have := h a b ha hb hh
  have := h1 b ((a : Int) + 1)
  omega
theorem LNet.edit_len (N : LNet) (e : LEv) : (N.edit e).docs.length = N.docs.length := by
  unfold LNet.edit
  split
  · rfl
  · simp
theorem LNet.send_len (N : LNet) (i j : Int) : (N.send i j).docs.length = N.docs.length := by
  unfold LNet.send
  split <;> rfl
theorem LNet.mail_len (N : LNet) (e : LEv) : (N.mail e).docs.length = N.docs.length := by
  unfold LNet.mail
  split
  · rfl
  split
  · split <;> rfl
  split
  · rfl
  · simp
theorem LNet.do_len (N : LNet) (e : LEv) : (N.do_ e).docs.length = N.docs.length := by
  unfold LNet.do_
  split
  · exact N.edit_len e
  split
  · exact N.send_len _ _
  split
  · exact N.mail_len e
  · rfl
/-- The first parcel comes. -/
theorem Fair.first {U : List LOp} {N : LNet} (h : Fair U N) (hu : 0 < N.under.length) : (N.doE dlv = 0 ∨ N.doE dlv = 4) ∧ Fair U (N.do_ dlv) ∧ (N.do_ dlv).under.length = N.under.length - 1 ∧ (N.do_ dlv).docs.length = N.docs.length := by
  have e4 : N.doE dlv = N.mailE dlv := by unfold LNet.doE dlv; rw [if_neg (by unfold LNet.editB; simp), if_neg (by simp), if_pos (by unfold LNet.mailB; simp)]
  have e5 : N.do_ dlv = N.mail dlv := by unfold LNet.do_ dlv; rw [if_neg (by unfold LNet.editB; simp), if_neg (by simp), if_pos (by unfold LNet.mailB; simp)]
  have hnm : ¬ N.noMail dlv.a := by unfold LNet.noMail dlv; simp only; omega
  obtain ⟨hi, h1, h2⟩ := LNet.mail_get hnm
  have hmem : N.mailAt dlv.a.toNat ∈ N.under := by rw [h1]; exact List.getElem_mem hi
  have e6 : N.mailE dlv = (N.doc (N.mailAt dlv.a.toNat).1.toNat).openE (N.mailAt dlv.a.toNat).2 := by
    unfold LNet.mailE
    rw [if_neg hnm, if_neg (by simp [dlv]), if_neg (by simp [dlv])]
  refine ⟨?_, ?_, ?_, ?_⟩
  · rw [e4, e6]; exact (h.open_ hmem).1
  · rw [e5]; exact h.mail_ dlv
  · rw [e5]
    unfold LNet.mail
    rw [if_neg hnm, if_neg (by simp [dlv]), if_neg (by simp [dlv])]
    simp only
    rw [List.length_eraseIdx_of_lt hi]
  · rw [e5, LNet.mail_len]
end Go.Proofs.YthfbjfocmnikaaaGreatDoor
/- A cursor that is held stays by its letter: plain. Conditions: none. -/
namespace Go.Proofs.YthfbjfocmnikaaaGreatDoor
open Go.RowKit
set_option linter.unusedVariables false
/-- Nothing is held, or the place of a letter that was written. -/
def Held (O : List LOp) (p c : ByteArray) : Prop := p.size = 0 ∨ ∃ o ∈ O, o.what = 1 ∧ o.place = p ∧ c = strOf [u8 o.letter]
theorem Held.more {O Q : List LOp} {p c : ByteArray} (h : Held O p c) (hs : ∀ o ∈ O, o ∈ Q) : Held Q p c := by
  rcases h with h | ⟨o, h1, h2⟩
  · exact .inl h
  · exact .inr ⟨o, hs o h1, h2⟩
theorem old_seen {l : List LLeaf} (hb : BookOk l) {n : Nat} (hn : n < l.length) : old l l[n].place = l[n] := by
  have ha := ahead_at hb.rising hn
  have hh : hasAt l l[n].place = true := by
    unfold hasAt
    rw [ha, List.getElem?_eq_getElem hn]
    simp
  unfold old
  rw [if_pos hh]
  unfold leafAt
  rw [ha]
  simp [List.getD, hn]
theorem str_one {l : List UInt8} {i : Nat} {x : UInt8} (h : l[i]? = some x) : (strOf l).extract i (i + 1) = strOf [x] := by
  have hi : i < l.length := by
    rcases Nat.lt_or_ge i l.length with hh | hh
    · exact hh
    · rw [List.getElem?_eq_none hh] at h; cases h
  rw [List.getElem?_eq_getElem hi] at h
  injection h with h
  apply ByteArray.ext
  rw [ByteArray.data_extract]
  apply Array.ext'
  simp only [strOf, Array.toList_extract, List.extract_eq_take_drop]
  rw [show i + 1 - i = 1 by omega, List.drop_eq_getElem_cons hi, h]
  rfl
theorem text_at {l : List LLeaf} {n : Nat} (hn : n < l.length) (hs : seenB l[n] = true) : (textL l)[(textL (l.take n)).length]? = some (u8 l[n].letter) := by
  have e : l = l.take n ++ l[n] :: l.drop (n + 1) := by rw [← List.drop_eq_getElem_cons hn, List.take_append_drop]
  have e2 : textL l = textL (l.take n) ++ ([u8 l[n].letter] ++ textL (l.drop (n + 1))) := by
    conv => lhs; rw [e]
    rw [textL_app]
    congr 1
    have : l[n] :: l.drop (n + 1) = [l[n]] ++ l.drop (n + 1) := rfl
    rw [this, textL_app]
    congr 1
    unfold textL
    rw [List.filter_cons_of_pos hs]; rfl
  rw [e2, List.getElem?_append_right (Nat.le_refl _), Nat.sub_self]
  rfl
/-- What an anchor holds. -/
theorem held_some {U : List LOp} {d : LDoc} (hd : Part U d) {a : Nat} (ha : a < (textOf d.book).size) : Held d.ops (anchRes d.book (a : Int)) ((textOf d.book).extract a (a + 1)) := by
  have hb := bookErr_zero hd.ok.book
  have he : anchErr d.book (a : Int) = 0 := by unfold anchErr; rw [if_neg (by omega), if_neg (by omega)]
  rw [text_size] at ha
  obtain ⟨n, hn, h1, h2, h3⟩ := nth_seen d.book 0 a ha
  have hp : anchRes d.book (a : Int) = d.book[n].place := by
    unfold anchRes
    rw [if_pos ⟨he, by rw [text_size]; omega⟩, h1]
    simp [List.getD, hn]
  rw [hp]
  have ho := old_seen hd.ok.book hn
  have hl : d.book[n].letter ≠ 0 := by
    intro h
    unfold seenB at h2
    rw [h] at h2
    simp at h2
  obtain ⟨o, o1, o2, o3⟩ := hd.says.blank d.book[n].place (by rw [ho]; exact hl)
  have h4 := hd.says.letter o o1 o2
  rw [o3, ho] at h4
  refine .inr ⟨o, o1, o2, o3, ?_⟩
  rw [← h4]
  have := text_at hn h2
  rw [h3] at this
  exact str_one this
/-- Where it is in the end. -/
theorem held_end {U : List LOp} {n : Nat} {d : LDoc} (hU : Univ U n) (hd : Part U d) {p c : ByteArray} (hh : Held d.ops p c) (hp : p.size ≠ 0) :
    hasAt d.book p = true ∧ resErr d.book p = 0 ∧ ∃ hk : ahead d.book p < d.book.length, (seenB d.book[ahead d.book p] = true → (textOf d.book).extract (posOf d.book p) (posOf d.book p + 1) = c ∧ posOf d.book p < (textOf d.book).size) := by
  rcases hh with h | ⟨o, o1, o2, o3, o4⟩
  · exact absurd h hp
  have hb := bookErr_zero hd.ok.book
  have hat : hasAt d.book p = true := (hd.says.here p).2 ⟨o, o1, .inl o2, o3⟩
  have hk := hasAt_lt hat
  have hpe : placeErr p = 0 := by rw [← o3]; exact (op_ok (hU.good o (hd.sub o o1))).2.2.1
  refine ⟨hat, by unfold resErr cpErr; rw [if_neg (by omega), if_neg hp]; exact hpe, hk, fun hs => ?_⟩
  have h4 := hd.says.letter o o1 o2
  have ho : old d.book p = d.book[ahead d.book p] := by
    unfold old
    rw [if_pos hat]
    unfold leafAt
    simp [List.getD, hk]
  rw [o3, ho] at h4
  have h5 := text_at hk hs
  have hpo : posOf d.book p = (textL (d.book.take (ahead d.book p))).length := by unfold posOf; rw [if_neg hp, text_size]
  rw [hpo, o4, ← h4]
  refine ⟨str_one h5, ?_⟩
  rw [text_size]
  rcases Nat.lt_or_ge (textL (d.book.take (ahead d.book p))).length (textL d.book).length with h6 | h6
  · exact h6
  · rw [List.getElem?_eq_none h6] at h5; cases h5
/-- What a node has done it has done. -/
theorem Fair.ops_stay {U : List LOp} {N : LNet} (h : Fair U N) (e : LEv) (i : Nat) : ∀ x ∈ (N.doc i).ops, x ∈ ((N.do_ e).doc i).ops := fun x hx => by
  unfold LNet.do_
  split
  · unfold LNet.edit
    split
    · exact hx
    rename_i hb
    obtain ⟨b1, b2⟩ := LNet.nodeB_iff.1 (by simpa using hb : N.nodeB e.a = true)
    have hi : e.a.toNat < N.docs.length := by omega
    obtain ⟨V, v1, v2, v3, v4, v5, v6⟩ := LDoc.edit_own e h.univ (h.part _ hi) b1 (by omega) (fun x hx hxw => h.own _ hi x hx (by omega))
    rw [LNet.doc_set hi]
    split
    · rename_i hii; subst hii; exact v6 x hx
    · exact hx
  split
  · unfold LNet.send
    split <;> exact hx
  split
  · unfold LNet.mail
    split
    · exact hx
    rename_i hm
    obtain ⟨hi, h1, h2⟩ := LNet.mail_get hm
    split
    · split <;> exact hx
    split
    · exact hx
    · have hmem : N.mailAt e.a.toNat ∈ N.under := by rw [h1]; exact List.getElem_mem hi
      obtain ⟨o1, o2, o3⟩ := h.open_ hmem
      obtain ⟨t1, t2⟩ := h.ok.goes _ hmem
      rw [LNet.doc_set (by omega)]
      split
      · rename_i hii; subst hii; exact o3 x hx
      · exact hx
  · exact hx
end Go.Proofs.YthfbjfocmnikaaaGreatDoor
/- A net in a law, with two rows of texts beside it. Conditions: none of our own. -/
namespace Go.Proofs.YthfbjfocmnikaaaGreatDoor
open Go.RowKit
set_option linter.unusedVariables false
/-- A net of the call's own, and two rows of texts apart from it and from each other. -/
def NHd (w : World) (B b : Nat) (N : LNet) (A1 : Option Addr) (c1 : Nat) (H : List ByteArray) (A2 : Option Addr) (c2 : Nat) (C : List ByteArray) (wr : World) : Prop :=
  w.heap.size ≤ B ∧ N.Ok ∧ Below w.heap.size w wr ∧ ∃ S, NetIs wr B S b N ∧ Own wr w.heap.size 9 1 A1 H.length c1 (strs H) ∧ Own wr w.heap.size 9 1 A2 C.length c2 (strs C) ∧
    (∀ g ∈ ob A1, g ∉ S ∧ g ∉ ob A2) ∧ ∀ g ∈ ob A2, g ∉ S
namespace NHd
variable {w wr w' : World} {B b : Nat} {N M : LNet} {A1 A2 : Option Addr} {c1 c2 : Nat} {H C : List ByteArray}
theorem of (h : NSc w B b N wr) : NHd w B b N none 0 [] none 0 [] wr := by
  obtain ⟨h1, h2, h3, S, h4⟩ := h
  exact ⟨h1, h2, h3, S, h4, Own.nil _ _ _ _, Own.nil _ _ _ _, by simp [ob], by simp [ob]⟩
theorem ok (h : NHd w B b N A1 c1 H A2 c2 C wr) : N.Ok := h.2.1
theorem below (h : NHd w B b N A1 c1 H A2 c2 C wr) : Below w.heap.size w wr := h.2.2.1
theorem net (h : NHd w B b N A1 c1 H A2 c2 C wr) : NSc w B b N wr := by
  obtain ⟨h1, h2, h3, S, h4, _⟩ := h
  exact ⟨h1, h2, h3, S, h4⟩
theorem step (h : NHd w B b N A1 c1 H A2 c2 C wr) (hb : Below wr.heap.size wr w') : NHd w B b N A1 c1 H A2 c2 C w' := by
  obtain ⟨h1, h2, h3, S, h4, h5, h6, h7, h8⟩ := h
  exact ⟨h1, h2, h3.trans (hb.mono h3.size), S, h4.below hb, h5.below hb, h6.below hb, h7, h8⟩
theorem do_ (h : NHd w B b N A1 c1 H A2 c2 C wr) (e : LEv) (hwf : e.Wf) :
    Calls Tryz.prog 50 #[.pointer (some ⟨b, 0, none⟩), .agg e.cells] wr (fun r w' => r = .returned (errV (N.doE e)) ∧ NHd w B b (N.do_ e) A1 c1 H A2 c2 C w') := by
  obtain ⟨h1, h2, h3, S, hn, h5, h6, h7, h8⟩ := h
  refine (ndo_any wr B S b N hn h2 e hwf).mono ?_
  rintro r w' ⟨rfl, S', k1, k2, k3⟩
  obtain ⟨ds, B1, d1, B2, d2, hA⟩ := hn
  refine ⟨rfl, h1, h2.do_ e, h3.trans (k2.below h3.size (fun g hg => Nat.le_trans h1 (hA.own g hg).1)), S', k1, h5.only k2 (fun g hg hm => (h7 g hg).1 hm), h6.only k2 (fun g hg hm => h8 g hg hm), fun g hg => ⟨fun hm => ?_, (h7 g hg).2⟩, fun g hg hm => ?_⟩
  · rcases k3 g hm with h | h
    · exact (h7 g hg).1 h
    · have := (h5.lt g hg).2; omega
  · rcases k3 g hm with h | h
    · exact h8 g hg h
    · have := (h6.lt g hg).2; omega
theorem same (h : NHd w B b N A1 c1 H A2 c2 C wr) : Calls Tryz.prog 52 #[.pointer (some ⟨b, 0, none⟩)] wr (fun r w' => r = .returned (.bool N.sameB) ∧ NHd w B b N A1 c1 H A2 c2 C w') := by
  obtain ⟨h1, h2, h3, S, h4, _⟩ := id h
  exact (nsame_any wr B S b N h4 h2).mono fun r w' hh => ⟨hh.1, h.step hh.2⟩
theorem under (h : NHd w B b N A1 c1 H A2 c2 C wr) : Calls Tryz.prog 51 #[.pointer (some ⟨b, 0, none⟩)] wr (fun r w' => r = .returned (.int .i64 (N.under.length : Nat)) ∧ w' = wr) := h.net.under
/-- A node's document. -/
theorem doc (h : NHd w B b N A1 c1 H A2 c2 C wr) {i : Nat} (hi : i < N.docs.length) : ∃ p S D, Calls Tryz.prog 55 #[.pointer (some ⟨b, 0, none⟩), .int .i64 i] wr (fun r w' => r = .returned (.tuple #[.pointer (some ⟨p, 0, none⟩), .nilIface]) ∧ w' = wr) ∧ ∀ W, Below wr.heap.size wr W → DocIs W B S p (N.doc i) D := by
  obtain ⟨h1, h2, h3, S, ⟨ds, B1, d1, B2, d2, hA⟩, _⟩ := h
  have hd : i < ds.length := by rw [hA.len]; exact hi
  have hnb : N.nodeB (i : Int) = true := LNet.nodeB_iff.2 (by omega)
  refine ⟨ds[i].b, ds[i].S, ds[i].D, ?_, fun W hW => (hA.below hW).nodes i hd⟩
  refine (ndoc_any wr B S b N ds B1 d1 B2 d2 hA (i : Int)).mono ?_
  rintro r w' ⟨rfl, ⟨_, hh, rfl⟩ | ⟨hh, _⟩⟩
  · exact ⟨by simp, rfl⟩
  · rw [hnb] at hh; cases hh
theorem row1 (h : NHd w B b N A1 c1 H A2 c2 C wr) : Reads wr wr.heap.size 1 A1 H.length (strs H) := by
  obtain ⟨_, _, _, S, _, h5, _⟩ := h
  exact h5.reads
theorem row2 (h : NHd w B b N A1 c1 H A2 c2 C wr) : Reads wr wr.heap.size 1 A2 C.length (strs C) := by
  obtain ⟨_, _, _, S, _, _, h6, _⟩ := h
  exact h6.reads
theorem own1 (h : NHd w B b N A1 c1 H A2 c2 C wr) : Own wr w.heap.size 9 1 A1 H.length c1 (strs H) := by
  obtain ⟨_, _, _, S, _, h5, _⟩ := h
  exact h5
theorem own2 (h : NHd w B b N A1 c1 H A2 c2 C wr) : Own wr w.heap.size 9 1 A2 C.length c2 (strs C) := by
  obtain ⟨_, _, _, S, _, _, h6, _⟩ := h
  exact h6
theorem push1 (h : NHd w B b N A1 c1 H A2 c2 C wr) {W w8 : World} (hW : Below wr.heap.size wr W) {p : ByteArray} {A3 : Option Addr} {c3 : Nat} (hO : Own w8 w.heap.size 9 1 A3 (H.length + 1) c3 (strs H ++ [.string p])) (hL : Only (ob A1) W w8) (hg : ∀ g ∈ ob A3, g ∈ ob A1 ∨ g = W.heap.size) :
    NHd w B b N A3 c3 (H ++ [p]) A2 c2 C w8 := by
  have h' := h.step hW
  obtain ⟨h1, h2, h3, S, ⟨ds, B1, d1, B2, d2, hA⟩, h5, h6, h7, h8⟩ := h'
  refine ⟨h1, h2, h3.trans (hL.below h3.size (fun g hg => (h5.lt g hg).1)), S, ⟨ds, B1, d1, B2, d2, hA.only hL (fun g hg => (h7 g hg).1)⟩, ?_, h6.only hL (fun g hg hm => (h7 g hm).2 hg), fun g hg2 => ?_, h8⟩
  · have e : strs (H ++ [p]) = strs H ++ [.string p] := by simp [strs]
    rw [e, List.length_append]
    exact hO
  · rcases hg g hg2 with h9 | h9
    · exact h7 g h9
    · refine ⟨fun hm => ?_, fun hm => ?_⟩
      · have := (hA.own g hm).2; omega
      · have := (h6.lt g hm).2; omega
theorem push2 (h : NHd w B b N A1 c1 H A2 c2 C wr) {W w8 : World} (hW : Below wr.heap.size wr W) {p : ByteArray} {A3 : Option Addr} {c3 : Nat} (hO : Own w8 w.heap.size 9 1 A3 (C.length + 1) c3 (strs C ++ [.string p])) (hL : Only (ob A2) W w8) (hg : ∀ g ∈ ob A3, g ∈ ob A2 ∨ g = W.heap.size) :
    NHd w B b N A1 c1 H A3 c3 (C ++ [p]) w8 := by
  have h' := h.step hW
  obtain ⟨h1, h2, h3, S, ⟨ds, B1, d1, B2, d2, hA⟩, h5, h6, h7, h8⟩ := h'
  refine ⟨h1, h2, h3.trans (hL.below h3.size (fun g hg => (h6.lt g hg).1)), S, ⟨ds, B1, d1, B2, d2, hA.only hL (fun g hg => h8 g hg)⟩, h5.only hL (fun g hg hm => (h7 g hg).2 hm), ?_, fun g hg2 => ⟨(h7 g hg2).1, fun hm => ?_⟩, fun g hg2 hm => ?_⟩
  · have e : strs (C ++ [p]) = strs C ++ [.string p] := by simp [strs]
    rw [e, List.length_append]
    exact hO
  · rcases hg g hm with h9 | h9
    · exact (h7 g hg2).2 h9
    · have := (h5.lt g hg2).2; omega
  · rcases hg g hg2 with h9 | h9
    · exact h8 g h9 hm
    · have := (hA.own g hm).2; omega
end NHd
theorem elemStr : Elem Tryz.prog 62 9 1 16 := Elem.mk_ (z := .string ⟨#[]⟩) Tryz.underlying62 (by kernel_rfl) rfl (by decide)
end Go.Proofs.YthfbjfocmnikaaaGreatDoor
/- The scene of TopTogether: a net, and a cursor of each. Conditions: none of our own. -/
namespace Go.Proofs.YthfbjfocmnikaaaGreatDoor
open Go.RowKit
set_option linter.unusedVariables false
/-- What is held of each is a place of its own. -/
def HOk (N : LNet) (H C : List ByteArray) : Prop := H.length = C.length ∧ ∀ k, k < H.length → Held (N.doc k).ops (H.getD k ⟨#[]⟩) (C.getD k ⟨#[]⟩)
namespace HOk
theorem nil (N : LNet) : HOk N [] [] := ⟨rfl, fun k hk => absurd hk (by simp)⟩
theorem do_ {U : List LOp} {N : LNet} {H C : List ByteArray} (h : HOk N H C) (hf : Fair U N) (e : LEv) : HOk (N.do_ e) H C := ⟨h.1, fun k hk => (h.2 k hk).more (hf.ops_stay e k)⟩
theorem push {N : LNet} {H C : List ByteArray} {p c : ByteArray} (h : HOk N H C) (hp : Held (N.doc H.length).ops p c) : HOk N (H ++ [p]) (C ++ [c]) := by
  refine ⟨by simp [h.1], fun k hk => ?_⟩
  have hl := h.1
  rcases Nat.lt_or_ge k H.length with h1 | h1
  · have := h.2 k h1
    simp only [List.getD_eq_getElem?_getD] at this ⊢
    rw [List.getElem?_append_left h1, List.getElem?_append_left (by omega)]
    exact this
  · have : k = H.length := by simp at hk; omega
    subst this
    simp only [List.getD_eq_getElem?_getD]
    rw [List.getElem?_append_right (Nat.le_refl _), List.getElem?_append_right (by omega), Nat.sub_self, hl, Nat.sub_self, ← hl]
    exact hp
end HOk
/-- A cursor, as it is set. -/
theorem anch_three {U : List LOp} {d : LDoc} (hd : Part U d) (at_ : Int) :
    (anchErr d.book at_ ≠ 0) ∨ (anchErr d.book at_ = 0 ∧ (anchRes d.book at_).size = 0) ∨
    (anchErr d.book at_ = 0 ∧ (anchRes d.book at_).size ≠ 0 ∧ 0 ≤ at_ ∧ at_ < ((textOf d.book).size : Int) ∧ Held d.ops (anchRes d.book at_) ((textOf d.book).extract at_.toNat (at_.toNat + 1))) := by
  by_cases he : anchErr d.book at_ = 0
  · by_cases hs : (anchRes d.book at_).size = 0
    · exact .inr (.inl ⟨he, hs⟩)
    · have hlt : at_ < ((textOf d.book).size : Int) := by
        rcases Int.lt_or_le at_ ((textOf d.book).size : Int) with h | h
        · exact h
        · unfold anchRes at hs
          rw [if_neg (by omega)] at hs
          exact absurd rfl hs
      have h0 : 0 ≤ at_ := by
        have := he
        unfold anchErr at this
        rw [if_neg (by have := bookErr_zero hd.ok.book; omega)] at this
        split at this
        · omega
        · omega
      have := held_some hd (a := at_.toNat) (by omega)
      rw [Int.toNat_of_nonneg h0] at this
      exact .inr (.inr ⟨he, hs, h0, hlt, this⟩)
  · exact .inl he
/-- The net under way, with what is held. -/
def Tog (w : World) (B b n : Nat) (A1 : Option Addr) (c1 : Nat) (H : List ByteArray) (A2 : Option Addr) (c2 : Nat) (C : List ByteArray) (wr : World) : Prop :=
  ∃ N U, NHd w B b N A1 c1 H A2 c2 C wr ∧ Fair U N ∧ N.docs.length = n ∧ HOk N H C
namespace Tog
variable {w wr : World} {B b n : Nat} {A1 A2 : Option Addr} {c1 c2 : Nat} {H C : List ByteArray}
theorem below (h : Tog w B b n A1 c1 H A2 c2 C wr) : Below w.heap.size w wr := by
  obtain ⟨N, U, h1, _⟩ := h
  exact h1.below
theorem step {w' : World} (h : Tog w B b n A1 c1 H A2 c2 C wr) (hb : Below wr.heap.size wr w') : Tog w B b n A1 c1 H A2 c2 C w' := by
  obtain ⟨N, U, h1, h2⟩ := h
  exact ⟨N, U, h1.step hb, h2⟩
theorem do_ (h : Tog w B b n A1 c1 H A2 c2 C wr) (e : LEv) (hwf : e.Wf) :
    ∃ ke : Int, Calls Tryz.prog 50 #[.pointer (some ⟨b, 0, none⟩), .agg e.cells] wr (fun r w' => r = .returned (errV ke) ∧ Tog w B b n A1 c1 H A2 c2 C w') := by
  obtain ⟨N, U, h1, h2, h3, h4⟩ := h
  refine ⟨N.doE e, (h1.do_ e hwf).mono ?_⟩
  rintro r w' ⟨rfl, k1⟩
  obtain ⟨V, hV, _⟩ := h2.do_ e
  exact ⟨rfl, _, V, k1, hV, by rw [LNet.do_len, h3], h4.do_ h2 e⟩
/-- One more is under way. -/
def Way (w : World) (B b n : Nat) (A1 : Option Addr) (c1 : Nat) (H : List ByteArray) (A2 : Option Addr) (c2 : Nat) (C : List ByteArray) (k : Nat) (wr : World) : Prop :=
  ∃ N U, NHd w B b N A1 c1 H A2 c2 C wr ∧ Fair U N ∧ N.docs.length = n ∧ HOk N H C ∧ N.under.length = k
theorem way (h : Tog w B b n A1 c1 H A2 c2 C wr) : ∃ k, k ≤ 100 ∧ Way w B b n A1 c1 H A2 c2 C k wr := by
  obtain ⟨N, U, h1, h2, h3, h4⟩ := h
  exact ⟨_, h1.ok.under, N, U, h1, h2, h3, h4, rfl⟩
theorem Way.under {k : Nat} (h : Way w B b n A1 c1 H A2 c2 C k wr) : Calls Tryz.prog 51 #[.pointer (some ⟨b, 0, none⟩)] wr (fun r w' => r = .returned (.int .i64 (k : Nat)) ∧ w' = wr) := by
  obtain ⟨N, U, h1, h2, h3, h4, rfl⟩ := h
  exact h1.under
theorem Way.lt {k : Nat} (h : Way w B b n A1 c1 H A2 c2 C k wr) : k ≤ 100 := by
  obtain ⟨N, U, h1, h2, h3, h4, rfl⟩ := h
  exact h1.ok.under
theorem Way.below {k : Nat} (h : Way w B b n A1 c1 H A2 c2 C k wr) : Below w.heap.size w wr := by
  obtain ⟨N, U, h1, _⟩ := h
  exact h1.below
theorem Way.first {k : Nat} (h : Way w B b n A1 c1 H A2 c2 C (k + 1) wr) :
    ∃ ke : Int, Calls Tryz.prog 50 #[.pointer (some ⟨b, 0, none⟩), .agg #[.int .i64 4, .int .i64 0, .int .i64 0, .int .i64 0]] wr (fun r w' => r = .returned (errV ke) ∧ Way w B b n A1 c1 H A2 c2 C k w') := by
  obtain ⟨N, U, h1, h2, h3, h4, h5⟩ := h
  obtain ⟨f1, f2, f3, f4⟩ := h2.first (by omega)
  refine ⟨N.doE dlv, (h1.do_ dlv ⟨by decide, by decide, by decide, by decide⟩).mono ?_⟩
  rintro r w' ⟨rfl, k1⟩
  exact ⟨rfl, _, U, k1, f2, by rw [f4, h3], h4.do_ h2 dlv, by omega⟩
/-- One sends to another one, and it comes. -/
theorem Way.mesh (h : Way w B b n A1 c1 H A2 c2 C 0 wr) {i j : Nat} (hi : i < n) (hj : j < n) (hij : i ≠ j) (hn : n ≤ 4) : ∃ ke : Int, (ke = 0 ∨ ke = 4) ∧
    Calls Tryz.prog 50 #[.pointer (some ⟨b, 0, none⟩), .agg #[.int .i64 3, .int .i64 i, .int .i64 j, .int .i64 0]] wr (fun e w1 => e = .returned .nilIface ∧ Hid (Below w.heap.size w w1 ∧
      Calls Tryz.prog 50 #[.pointer (some ⟨b, 0, none⟩), .agg #[.int .i64 4, .int .i64 0, .int .i64 0, .int .i64 0]] w1 (fun e w2 => e = .returned (errV ke) ∧ Way w B b n A1 c1 H A2 c2 C 0 w2))) := by
  obtain ⟨N, U, h1, h2, h3, h4, h5⟩ := h
  subst h3
  obtain ⟨m1, m2, m3, m4, m5, m6, m7, m8, _⟩ := h2.mesh (List.eq_nil_of_length_eq_zero h5) hi hj hij
  refine ⟨_, m2, ?_⟩
  have d1 := h1.do_ (sndE i j) ⟨by simp only [sndE]; omega, by simp only [sndE]; omega, by simp only [sndE]; omega, by simp only [sndE]; omega⟩
  rw [m1, show errV 0 = Value.nilIface from rfl] at d1
  refine Calls.mono d1 ?_
  rintro e w1 ⟨rfl, k1⟩
  refine ⟨rfl, k1.below, ?_⟩
  have d2 := k1.do_ dlv ⟨by decide, by decide, by decide, by decide⟩
  refine Calls.mono d2 ?_
  rintro e w2 ⟨rfl, k2⟩
  obtain ⟨V, hV, _⟩ := h2.do_ (sndE i j)
  exact ⟨rfl, _, U, k2, m5, m4, (h4.do_ h2 _).do_ hV _, by rw [m3]; rfl⟩
/-- What is said of the last net: each cursor stands by its letter in each book, or where this was. -/
theorem Way.fin {k : Nat} (h : Way w B b n A1 c1 H A2 c2 C k wr) : ∃ v, Calls Tryz.prog 52 #[.pointer (some ⟨b, 0, none⟩)] wr (fun r w' => r = .returned (.bool v) ∧ Below w.heap.size w w' ∧ (v = true → ∃ N U, NHd w B b N A1 c1 H A2 c2 C w' ∧ Fair U N ∧ N.docs.length = n ∧ HOk N H C ∧ N.sameB = true)) := by
  obtain ⟨N, U, h1, h2, h3, h4, h5⟩ := h
  refine ⟨N.sameB, h1.same.mono ?_⟩
  rintro r w' ⟨rfl, k1⟩
  exact ⟨rfl, k1.below, fun hv => ⟨N, U, k1, h2, h3, h4, hv⟩⟩
end Tog
theorem same_book {N : LNet} (h : N.sameB = true) {i : Nat} (hi : i < N.docs.length) : (N.doc i).book = (N.doc 0).book := by
  unfold LNet.sameB at h
  rw [List.all_eq_true] at h
  have := h (N.docs[i]) (List.getElem_mem hi)
  simp only [decide_eq_true_eq] at this
  rw [LNet.doc_get hi]
  exact this.1
/-- Each cursor in each book. -/
theorem held_each {U : List LOp} {N : LNet} {H C : List ByteArray} (hf : Fair U N) (h : HOk N H C) (hs : N.sameB = true) (hn : H.length = N.docs.length) {i j : Nat} (hi : i < N.docs.length) (hj : j < N.docs.length) (hp : (H.getD i ⟨#[]⟩).size ≠ 0) :
    hasAt (N.doc j).book (H.getD i ⟨#[]⟩) = true ∧ resErr (N.doc j).book (H.getD i ⟨#[]⟩) = 0 ∧ (H.getD i ⟨#[]⟩).size ≤ 12 ∧ ∃ hk : ahead (N.doc j).book (H.getD i ⟨#[]⟩) < (N.doc j).book.length,
      (seenB (N.doc j).book[ahead (N.doc j).book (H.getD i ⟨#[]⟩)] = true → (textOf (N.doc j).book).extract (posOf (N.doc j).book (H.getD i ⟨#[]⟩)) (posOf (N.doc j).book (H.getD i ⟨#[]⟩) + 1) = C.getD i ⟨#[]⟩ ∧ posOf (N.doc j).book (H.getD i ⟨#[]⟩) < (textOf (N.doc j).book).size) := by
  have hb : (N.doc j).book = (N.doc i).book := (same_book hs hj).trans (same_book hs hi).symm
  rw [hb]
  obtain ⟨e1, e2, e3⟩ := held_end hf.univ (hf.part i hi) (h.2 i (by omega)) hp
  refine ⟨e1, e2, ?_, e3⟩
  unfold resErr at e2
  rw [if_neg (by have := bookErr_zero (hf.part i hi).ok.book; omega)] at e2
  unfold cpErr at e2
  rw [if_neg hp] at e2
  exact place_small e2
end Go.Proofs.YthfbjfocmnikaaaGreatDoor
/- leaftop.TopTogether, its last part: each cursor in each book, when all are the same. Conditions: none of our own. -/
namespace Go.Proofs.YthfbjfocmnikaaaGreatDoor
open Go.RowKit
set_option linter.unusedVariables false
namespace lawTopTogether
theorem str_at {A : Option Addr} {l : List ByteArray} {w : World} {B n : Nat} (hn : l.length = n) (h : Reads w B 1 A l.length (strs l)) {k : Nat} (hk : k < n) : ∃ ad, A = some ad ∧ ad.block < B ∧ w.cell? (ad.add k) = some (.string (l.getD k ⟨#[]⟩)) := by
  subst hn
  obtain ⟨ad, u, e, hb, hu, hc⟩ := h.at_ hk
  refine ⟨ad, e, hb, ?_⟩
  rw [strs_get hk] at hu
  rw [hc, ← hu]
  simp [List.getD, hk]
theorem sized_book {d : LDoc} (h : d.Ok) : Sized d.book := fun x hx => by have := place_small (h.book.leafs x hx).place; omega
theorem text_small {d : LDoc} (h : d.Ok) : (textOf d.book).size ≤ 300 := by
  have h1 := textL_le d.book
  have h2 := h.book.few
  rw [text_size]
  omega
/-- Where the code stands at region n. -/
def headAt (n : Nat) : Code → Bool
  | .region k _ _ => k == n
  | .seq a _ => headAt n a
  | _ => false
def fromAt (n : Nat) : Code → Option Code
  | .seq a b => if headAt n a then some (.seq a b) else match fromAt n a with
    | some c => some c
    | none => fromAt n b
  | .block _ c => fromAt n c
  | .scope c => fromAt n c
  | _ => none
noncomputable def tailCode : Code := ((Tryz.f8.body.bind (fromAt 53)).getD .skip)
set_option maxRecDepth 100000 in
set_option maxHeartbeats 8000000 in
theorem tail (w wc : World) (B b n : Nat) (A1 : Option Addr) (c1 : Nat) (H : List ByteArray) (A2 : Option Addr) (c2 : Nat) (C : List ByteArray) (hw : Tog.Way w B b n A1 c1 H A2 c2 C 0 wc) (hH : H.length = n) (hC : C.length = n) (hm4 : n ≤ 4) {u1 u2 u3 u4 u5 u6 u7 u9 u10 u11 u14 u15 u16 u17 u18 u19 u20 u21 u22 u23 u24 u25 u26 u27 u28 u29 u30 u31 u32 u33 u34 u35 u36 u37 u38 u39 u40 u41 u42 u43 u44 u45 u46 u47 u48 u49 u50 u51 u52 u53 u54 u55 u56 u57 u58 u59 u60 u61 u62 u63 u64 u65 u66 u67 u68 u69 u70 u71 u72 u73 u74 u75 u76 u77 u78 u79 u80 u81 u82 u83 u84 u85 u86 u87 u88 u89 u90 u91 u92 u93 u94 u95 u96 u97 u98 u99 u100 u101 u102 u103 u104 u105 u106 u107 u108 u109 u110 u111 u112 u113 u114 u115 u116 u117 u118 u119 u120 u121 u122 u123 u124 u125 u126 u127 u128 u129 u130 u131 u132 u133 u134 u135 u136 u137 u138 u139 u140 u141 u142 u143 u144 u145 u146 u147 u148 u149 u150 u151 u152 u153 u154 u155 u156 u157 u158 u159 u160 u161 u162 u163 u164 u165 u166 u167 u168 u169 u170 u171 u172 u173 u174 u175 u176 u177 u178 u179 u180 u181 u182 u183 u184 u185 u186 u187 u188 u189 u190 u191 u192 u193 u194 u195 u196 u197 u198 u199 u200 u201 u202 u203 u204 u205 u206 u207 u208 u209 u210 u211 u212 u213 u214 u215 u216 u217 u218 u219 u220 u221 u222 u223 u224 u225 u226 u227 u228 u229 u230 u231 u232 u233 u234 u235 u236 u237 u238 u239 u240 u241 u242 u243 : Value} :
    Code.wp Tryz.prog tailCode (bodyPost Tryz.prog Tryz.f8 (CheckPost w (.bool true))) ⟨#[.int .i64 (n : Nat), u1, u2, u3, u4, u5, u6, u7, .pointer (some ⟨b, 0, none⟩), u9, u10, u11, .slice A1 n c1, .slice A2 n c2, u14, u15, u16, u17, u18, u19, u20, u21, u22, u23, u24, u25, u26, u27, u28, u29, u30, u31, u32, u33, u34, u35, u36, u37, u38, u39, u40, u41, u42, u43, u44, u45, u46, u47, u48, u49, u50, u51, u52, u53, u54, u55, u56, u57, u58, u59, u60, u61, u62, u63, u64, u65, u66, u67, u68, u69, u70, u71, u72, u73, u74, u75, u76, u77, u78, u79, u80, u81, u82, u83, u84, u85, u86, u87, u88, u89, u90, u91, u92, u93, u94, u95, u96, u97, u98, u99, u100, u101, u102, u103, u104, u105, u106, u107, u108, u109, u110, u111, u112, u113, u114, u115, u116, u117, u118, u119, u120, u121, u122, u123, u124, u125, u126, u127, u128, u129, u130, u131, u132, u133, u134, u135, u136, u137, u138, u139, u140, u141, u142, u143, u144, u145, u146, u147, u148, u149, u150, u151, u152, u153, u154, u155, u156, u157, u158, u159, u160, u161, u162, u163, u164, u165, u166, u167, u168, u169, u170, u171, u172, u173, u174, u175, u176, u177, u178, u179, u180, u181, u182, u183, u184, u185, u186, u187, u188, u189, u190, u191, u192, u193, u194, u195, u196, u197, u198, u199, u200, u201, u202, u203, u204, u205, u206, u207, u208, u209, u210, u211, u212, u213, u214, u215, u216, u217, u218, u219, u220, u221, u222, u223, u224, u225, u226, u227, u228, u229, u230, u231, u232, u233, u234, u235, u236, u237, u238, u239, u240, u241, u242, u243], []⟩ wc := by
  have HW := Lib.hid hw
  have HH := Lib.hid hH
  have HCH := Lib.hid hC
  have HE0 : errV 0 = .nilIface := rfl
  clear hw hH hC
  conv => arg 2; whnf
  obtain ⟨v1, hfin⟩ := HW.out.fin
  have HFIN := Lib.hid hfin
  clear hfin HW
  cases v1 with
  | false =>
    go_wp2_with fail
    refine HFIN.out.mono ?_
    rintro e w8 ⟨rfl, hb8, _⟩
    have HB8 := Lib.hid hb8
    clear hb8
    go_wp2_with fail
    go_ret
    exact ⟨rfl, HB8.out⟩
  | true =>
    go_wp2_with fail
    refine HFIN.out.mono ?_
    rintro e w8 ⟨rfl, _, hh⟩
    obtain ⟨N, U, hn, hf, hln, hok, hsb⟩ := hh (by trivial)
    have HN := Lib.hid hn
    have HEA := Lib.hid (fun i j (hi : i < n) (hj : j < n) => held_each hf hok hsb (by rw [HH.out, hln]) (i := i) (j := j) (by omega) (by omega))
    have HLN := Lib.hid hln
    clear hh hn hf hln hok hsb
    go_upto_block 14 with (fail)
    go_cut [26] (fun _ wx => Hid (Below w.heap.size w wx))
    case first =>
      go_wp2_with fail
      go_loopw [26] (fun i wr => ∃ k : Nat, k ≤ n ∧ i = .int .i64 (k : Nat) ∧ Hid (NHd w B b N A1 c1 H A2 c2 C wr)) (fun i _ => n - (intOf i).toNat)
      case atStart => exact ⟨0, by omega, rfl, HN⟩
      case round =>
        obtain ⟨i, hi, rfl, HN1⟩ := hrel
        have i0 : (0 : Int) ≤ (i : Int) := by omega
        by_cases hin : i < n
        · have i1 : (i : Int) < (n : Int) := by omega
          obtain ⟨ad, rfl, _, d0⟩ := str_at HH.out HN1.out.row1 hin
          by_cases hz : (H.getD i ⟨#[]⟩).size = 0
          · have g1 := empty_yes hz
            clear hz
            generalize H.getD i ⟨#[]⟩ = hp at *
            go_wp2_with fail
            go_roundw
            case rel => exact ⟨i + 1, by omega, by go_num, HN1⟩
            case measure => simp [intOf]; omega
          · have g1 := empty_no hz
            have HEI := Lib.hid (fun j hj => HEA.out i j hin hj hz)
            have HD0 := Lib.hid (fun W (hW : NHd w B b N (some ad) c1 H A2 c2 C W) => (str_at HH.out hW.row1 hin))
            obtain ⟨hp, hhp⟩ : ∃ hp, hp = H.getD i ⟨#[]⟩ := ⟨_, rfl⟩
            rw [← hhp] at HEI HD0 d0 g1
            obtain ⟨cp, hcp⟩ : ∃ cp, cp = C.getD i ⟨#[]⟩ := ⟨_, rfl⟩
            rw [← hcp] at HEI
            have HCP := Lib.hid hcp
            clear hz hhp hcp
            go_upto_block 16 with (fail)
            go_wp2_with fail
            go_loopw [27] (fun i wr => ∃ k : Nat, k ≤ n ∧ i = .int .i64 (k : Nat) ∧ Hid (NHd w B b N (some ad) c1 H A2 c2 C wr)) (fun i _ => n - (intOf i).toNat)
            case atStart => exact ⟨0, by omega, rfl, HN1⟩
            case round =>
              obtain ⟨j, hj, rfl, HN2⟩ := hrel
              have j0 : (0 : Int) ≤ (j : Int) := by omega
              by_cases hjn : j < n
              · have j1 : (j : Int) < (n : Int) := by omega
                have hjd : j < N.docs.length := by rw [HLN.out]; exact hjn
                obtain ⟨p, S, D, hdoc, hD⟩ := HN2.out.doc hjd
                have HDC := Lib.hid hdoc
                have HDI := Lib.hid hD
                have HOK := Lib.hid (HN2.out.ok.doc j)
                obtain ⟨e1, e2, e3, hk, e4⟩ := HEI.out j hjn
                have HE4 := Lib.hid e4
                have HBK := Lib.hid (book_doc wr _ _ _ _ _ (HDI.out _ (Below.refl _ _)) HOK.out)
                have HSZ := Lib.hid (sized_book HOK.out)
                have HTX := Lib.hid (fun W (hW : Below wr.heap.size wr W) => text_doc W _ _ _ _ _ (HDI.out W hW) HOK.out)
                have hsml : (textOf (N.doc j).book).size ≤ 300 := text_small HOK.out
                have hfew := HOK.out.book.few
                have HRS := Lib.hid HOK.out.book.rising
                have HPV : Hid (resVal (N.doc j).book hp = (posOf (N.doc j).book hp : Int)) := by show _ = _; unfold resVal; rw [if_pos e2]
                have HE1 := Lib.hid e1
                have HE2 := Lib.hid e2
                clear hdoc hD e1 e2 e4 hjd
                go_wp2_with fail
                refine HDC.out.mono ?_
                rintro e w9 ⟨rfl, hw9⟩
                obtain rfl := hw9.symm
                go_wp2_with fail
                refine HBK.out.mono ?_
                rintro e w9 ⟨V, cv, rfl, hO, hb⟩
                have HRC := Lib.hid (resolve_any w9 V cv _ hO.reads HSZ.out hO.cap_le (by have := hO.cap_max; unfold maxLen at this; omega) hp (by omega))
                unfold OffPost at HRC
                rw [HPV.out, HE2.out] at HRC
                have HN9 := Lib.hid (HN2.out.step hb)
                have HB9 := Lib.hid hb
                have HO9 := Lib.hid hO
                have HFD := Lib.hid (fun W (hW : Below w9.heap.size w9 W) => find_any W V cv _ hp ((hO.below hW).reads) (by omega) HRS.out)
                clear hO hb HBK HSZ
                have d1 : w9.cell? (ad.add i) = some (.string hp) := by
                  obtain ⟨ad', e', _, hd⟩ := HD0.out _ HN9.out
                  injection e' with e'; subst e'; exact hd
                go_wp2_with fail
                refine HRC.out.mono ?_
                rintro e w10 ⟨rfl, hb⟩
                rw [HE0]
                have HN10 := Lib.hid (HN9.out.step hb)
                have HB10 := Lib.hid (HB9.out.trans (hb.mono HB9.out.size))
                have HO10 := Lib.hid (HO9.out.below hb)
                have HF := Lib.hid (HFD.out _ hb)
                unfold FindPost at HF
                rw [HE1.out] at HF
                have d2 : w10.cell? (ad.add i) = some (.string hp) := by
                  obtain ⟨ad', e', _, hd⟩ := HD0.out _ HN10.out
                  injection e' with e'; subst e'; exact hd
                clear hb HRC HFD
                generalize ahead (N.doc j).book hp = q at *
                generalize posOf (N.doc j).book hp = po at *
                go_wp2_with fail
                refine HF.out.mono ?_
                rintro e w11 ⟨rfl, hb⟩
                have HN11 := Lib.hid (HN10.out.step hb)
                have HB11 := Lib.hid (HB10.out.trans (hb.mono HB10.out.size))
                have HO11 := Lib.hid (HO10.out.below hb)
                clear hb HF
                obtain ⟨a2, rfl, _, l0, l1, l2⟩ := HO11.out.reads.leaf hk
                have q0 : (0 : Int) ≤ (q : Int) := by omega
                have q1 : (q : Int) < ((N.doc j).book.length : Int) := by omega
                have HSN := Lib.hid (rseen_any w11 (N.doc j).book[q])
                have HC0 := Lib.hid (fun W (hW : Below wr.heap.size wr W) => by exact (str_at (n := n) HCH.out (HN2.out.step hW).row2 hin))
                rw [← HCP.out] at HC0
                cases hsn : seenB (N.doc j).book[q] with
                | false =>
                  rw [hsn] at HSN
                  clear hsn
                  generalize (N.doc j).book[q] = x at *
                  obtain ⟨xp, xl, xs⟩ := x
                  simp only at l0 l1 l2 HSN
                  go_upto_region 71 with (refine HSN.out.mono ?_; rintro e w12 ⟨rfl, hb⟩)
                  have HN12 := Lib.hid (HN11.out.step hb)
                  clear hb
                  have hf : True := trivial
                  refine wp_region_held_drew (S := fun _ => True) (by kernel_rfl) hf (fun _ => ?_)
                  refine wpAnyH_take (i := 0) (v := .bool false) rfl (by kernel_rfl) (by kernel_rfl) (by kernel_rfl) (fun _ _ _ h => h) (Or.inl ⟨by kernel_rfl, fun w hS => by go_simp⟩) hf ?_
                  simp only [List.getElem_toArray, List.getElem_cons_succ, List.getElem_cons_zero, Act.put, List.setIfInBounds_toArray, List.set_cons_zero, List.set_cons_succ]
                  refine wpAnyH_take (i := 1) (v := .bool false) rfl (by kernel_rfl) (by kernel_rfl) (by kernel_rfl) (fun _ _ _ h => h) (Or.inl ⟨by kernel_rfl, fun w hS => by go_simp⟩) hf ?_
                  simp only [List.getElem_toArray, List.getElem_cons_succ, List.getElem_cons_zero, Act.put, List.setIfInBounds_toArray, List.set_cons_zero, List.set_cons_succ]
                  refine wpAnyH_take (i := 2) (v := undef) rfl (by kernel_rfl) (by kernel_rfl) (by kernel_rfl) (fun _ _ _ h => h) (Or.inr ⟨by kernel_rfl, rfl⟩) hf ?_
                  simp only [List.getElem_toArray, List.getElem_cons_succ, List.getElem_cons_zero, Act.put, List.setIfInBounds_toArray, List.set_cons_zero, List.set_cons_succ]
                  refine wpAnyH_take (i := 3) (v := undef) rfl (by kernel_rfl) (by kernel_rfl) (by kernel_rfl) (fun _ _ _ h => h) (Or.inr ⟨by kernel_rfl, rfl⟩) hf ?_
                  simp only [List.getElem_toArray, List.getElem_cons_succ, List.getElem_cons_zero, Act.put, List.setIfInBounds_toArray, List.set_cons_zero, List.set_cons_succ]
                  refine wpAnyH_take (i := 4) (v := undef) rfl (by kernel_rfl) (by kernel_rfl) (by kernel_rfl) (fun _ _ _ h => h) (Or.inr ⟨by kernel_rfl, rfl⟩) hf ?_
                  simp only [List.getElem_toArray, List.getElem_cons_succ, List.getElem_cons_zero, Act.put, List.setIfInBounds_toArray, List.set_cons_zero, List.set_cons_succ]
                  refine wpAnyH_take (i := 5) (v := undef) rfl (by kernel_rfl) (by kernel_rfl) (by kernel_rfl) (fun _ _ _ h => h) (Or.inr ⟨by kernel_rfl, rfl⟩) hf ?_
                  simp only [List.getElem_toArray, List.getElem_cons_succ, List.getElem_cons_zero, Act.put, List.setIfInBounds_toArray, List.set_cons_zero, List.set_cons_succ]
                  refine wpAnyH_take (i := 6) (v := undef) rfl (by kernel_rfl) (by kernel_rfl) (by kernel_rfl) (fun _ _ _ h => h) (Or.inr ⟨by kernel_rfl, rfl⟩) hf ?_
                  simp only [List.getElem_toArray, List.getElem_cons_succ, List.getElem_cons_zero, Act.put, List.setIfInBounds_toArray, List.set_cons_zero, List.set_cons_succ]
                  refine wpAnyH_take (i := 7) (v := undef) rfl (by kernel_rfl) (by kernel_rfl) (by kernel_rfl) (fun _ _ _ h => h) (Or.inr ⟨by kernel_rfl, rfl⟩) hf ?_
                  simp only [List.getElem_toArray, List.getElem_cons_succ, List.getElem_cons_zero, Act.put, List.setIfInBounds_toArray, List.set_cons_zero, List.set_cons_succ]
                  refine wpAnyH_take (i := 8) (v := undef) rfl (by kernel_rfl) (by kernel_rfl) (by kernel_rfl) (fun _ _ _ h => h) (Or.inr ⟨by kernel_rfl, rfl⟩) hf ?_
                  simp only [List.getElem_toArray, List.getElem_cons_succ, List.getElem_cons_zero, Act.put, List.setIfInBounds_toArray, List.set_cons_zero, List.set_cons_succ]
                  refine wpAnyH_take (i := 9) (v := undef) rfl (by kernel_rfl) (by kernel_rfl) (by kernel_rfl) (fun _ _ _ h => h) (Or.inr ⟨by kernel_rfl, rfl⟩) hf ?_
                  simp only [List.getElem_toArray, List.getElem_cons_succ, List.getElem_cons_zero, Act.put, List.setIfInBounds_toArray, List.set_cons_zero, List.set_cons_succ]
                  refine wpAnyH_take (i := 10) (v := undef) rfl (by kernel_rfl) (by kernel_rfl) (by kernel_rfl) (fun _ _ _ h => h) (Or.inr ⟨by kernel_rfl, rfl⟩) hf ?_
                  simp only [List.getElem_toArray, List.getElem_cons_succ, List.getElem_cons_zero, Act.put, List.setIfInBounds_toArray, List.set_cons_zero, List.set_cons_succ]
                  refine wpAnyH_take (i := 11) (v := undef) rfl (by kernel_rfl) (by kernel_rfl) (by kernel_rfl) (fun _ _ _ h => h) (Or.inr ⟨by kernel_rfl, rfl⟩) hf ?_
                  simp only [List.getElem_toArray, List.getElem_cons_succ, List.getElem_cons_zero, Act.put, List.setIfInBounds_toArray, List.set_cons_zero, List.set_cons_succ]
                  refine wpAnyH_take (i := 12) (v := undef) rfl (by kernel_rfl) (by kernel_rfl) (by kernel_rfl) (fun _ _ _ h => h) (Or.inr ⟨by kernel_rfl, rfl⟩) hf ?_
                  simp only [List.getElem_toArray, List.getElem_cons_succ, List.getElem_cons_zero, Act.put, List.setIfInBounds_toArray, List.set_cons_zero, List.set_cons_succ]
                  refine wpAnyH_take (i := 13) (v := .bool false) rfl (by kernel_rfl) (by kernel_rfl) (by kernel_rfl) (fun _ _ _ h => h) (Or.inl ⟨by kernel_rfl, fun w hS => by go_simp⟩) hf ?_
                  simp only [List.getElem_toArray, List.getElem_cons_succ, List.getElem_cons_zero, Act.put, List.setIfInBounds_toArray, List.set_cons_zero, List.set_cons_succ]
                  refine wpAnyH_done (by kernel_rfl) ?_ _
                  go_wp2_with fail
                  go_roundw
                  case rel => exact ⟨j + 1, by omega, by go_num, Lib.hid (HN12.out.step (by first | exact below_drewN (Below.refl _ _) _ | exact (Below.refl _ _).drew | exact Below.refl _ _))⟩
                  case measure => simp [intOf]; omega
                | true =>
                  obtain ⟨z1, z2⟩ := HE4.out hsn
                  rw [hsn] at HSN
                  have HZ1 := Lib.hid z1
                  have p0 : (0 : Int) ≤ (po : Int) := by omega
                  have p1 : (po : Int) < ((textOf (N.doc j).book).size : Int) := by omega
                  have p3 : (po : Int) + 1 ≤ ((textOf (N.doc j).book).size : Int) := by omega
                  have p4 : (0 : Int) ≤ (po : Int) + 1 := by omega
                  have p5 : (po : Int) ≤ (po : Int) + 1 := by omega
                  have p6 : ((po : Int) + 1).toNat = po + 1 := by omega
                  have p2 : IntKind.i64.wrap ((po : Int) + 1) = (po : Int) + 1 := IntWalk.i64_in _ (by omega)
                  clear hsn z1
                  generalize (N.doc j).book[q] = x at *
                  obtain ⟨xp, xl, xs⟩ := x
                  simp only at l0 l1 l2 HSN
                  go_upto_region 71 with (refine HSN.out.mono ?_; rintro e w12 ⟨rfl, hb⟩)
                  have HB12 := Lib.hid (HB11.out.trans (hb.mono HB11.out.size))
                  have HN12 := Lib.hid (HN11.out.step hb)
                  clear hb
                  obtain ⟨a3, rfl, _, r0⟩ := HC0.out _ HB12.out
                  have HCL : Hid (∀ W, Below wr.heap.size wr W → W.cell? (a3.add i) = some (.string cp)) := fun W hW => by
                    obtain ⟨a', e', _, hd⟩ := HC0.out W hW
                    injection e' with e'; subst e'; exact hd
                  clear HC0
                  generalize textOf (N.doc j).book = tx at *
                  have hz1 := HZ1.out
                  clear HZ1
                  subst hz1
                  go_region_held3 (fun w' => w'.cell? (a3.add i) = some (.string (tx.extract po (po + 1))))
                    (first | go_keep | assumption)
                    (first
                      | (go_at_call 14; refine (HTX.out _ (by first | exact HB12.out | exact below_drewN HB12.out _ | exact HB12.out.drew)).mono ?_; rintro e w13 ⟨rfl, hb13⟩
                         clear r0
                         have r0 := HCL.out w13 (by first | exact HB12.out.trans (hb13.mono HB12.out.size) | exact HB12.out.trans ((below_of_drewN hb13).mono HB12.out.size) | exact HB12.out.trans ((below_of_drew hb13).mono HB12.out.size))))
                  go_wp2_with fail
                  go_roundw
                  case rel => exact ⟨j + 1, by omega, by go_num, Lib.hid (HN12.out.step (by first | exact hb13 | exact below_of_drewN hb13 | exact below_of_drew hb13))⟩
                  case measure => simp [intOf]; omega
              · have j1 : ¬ (j : Int) < (n : Int) := by omega
                go_wp2_with fail
                go_roundw
                case rel => exact ⟨i + 1, by omega, by go_num, HN2⟩
                case measure => simp [intOf]; omega
        · have i1 : ¬ (i : Int) < (n : Int) := by omega
          have HB := Lib.hid HN1.out.below
          go_wp2_with fail
          go_meet
          case rel => exact HB
    case rest =>
      have HB := hcut
      clear hcut
      go_wp2_with fail
      go_ret
      exact ⟨rfl, HB.out⟩
end lawTopTogether
end Go.Proofs.YthfbjfocmnikaaaGreatDoor

/- 16 texts in one: each says ahead of itself what is proved, and its conditions. -/
import Derived.Below
import Derived.ChangeSame
import Derived.ChangeVars
import Derived.Deep.CutBlock
import Derived.Deep.LoopGhost
import Derived.Deep.RegionHeld
import Derived.JoinedOf
import Derived.LaidEql
import Derived.LaidHandle
import Derived.LaidLaws
import Derived.ProofKit
import Derived.RowKit
import Derived.RowKitTokens
import Derived.SevenTiedAt
import Derived.SizedLaws
import Derived.Stop.Asserts
import Derived.Test.YtkaccnegdmpofaaGreatDoorCards
import Derived.Test.YtkaccnegdmpofaaGreatDoorRows
import Derived.Test.YtkaccnegdmpofaaGreatDoorTie
import Derived.WalkKit
import Derived.Test.YtkaccnegdmpofaaGreatDoorDocApply
import Derived.Test.YtkaccnegdmpofaaGreatDoorEditLaw
import Derived.Test.YtkaccnegdmpofaaGreatDoorNetSame
import Derived.Test.YtkaccnegdmpofaaGreatDoorNetScene
import Derived.Test.YtkaccnegdmpofaaGreatDoorNetSpec
import Derived.Test.YtkaccnegdmpofaaGreatDoorPlaceCheck
import Derived.Test.YtkaccnegdmpofaaGreatDoorShelfCmp
import Derived.Test.YtkaccnegdmpofaaGreatDoorSmall
/- All the ops of a net, whoever has them: what a document makes of them when they come. Plain. Conditions: none. -/
namespace Go.Proofs.YtkaccnegdmpofaaGreatDoor
open Go.RowKit
set_option linter.unusedVariables false
/-- The author of a place. -/
def authorOf (p : ByteArray) : Int := ((byteAt p (p.size - 1) - 97 : Nat) : Int)
/-- All ops that were ever done: each dot once; a letter of each place that is written. -/
structure Univ (U : List LOp) (n : Nat) : Prop where
  agree : ∀ x ∈ U, ∀ y ∈ U, x.dot = y.dot → x = y
  write : ∀ x ∈ U, x.what = 1 → authorOf x.place = x.dot.who
  letter : ∀ x ∈ U, ∀ y ∈ U, x.what = 1 → y.what = 1 → x.place = y.place → x.letter = y.letter
  good : ∀ x ∈ U, opErr x = 0
  who : ∀ x ∈ U, x.dot.who ≤ (n : Int)
/-- A document that has some of them. -/
structure Part (U : List LOp) (d : LDoc) : Prop where
  ok : d.Ok
  says : Says d.ops d
  num : Numbered d.ops
  sub : ∀ o ∈ d.ops, o ∈ U
/-- Ops that stand one behind the other, of each author from s on. -/
def Runs (l : List LOp) (s : Int → Nat) : Prop := ∀ (i : Int) (k : Nat) (o : LOp), (ofWho i l)[k]? = some o → o.dot.n = (s i : Int) + k + 1
def cnt (d : LDoc) (i : Int) : Nat := (ofWho i d.ops).length
theorem Part.more {U V : List LOp} {d : LDoc} (h : Part U d) (hs : ∀ o ∈ U, o ∈ V) : Part V d := ⟨h.ok, h.says, h.num, fun o ho => hs o (h.sub o ho)⟩
theorem Part.new (U : List LOp) : Part U LDoc.new := ⟨LDoc.new_ok, Says.new, Numbered.nil, fun o ho => by simp [LDoc.new] at ho⟩
theorem Part.known {U : List LOp} {d : LDoc} (h : Part U d) {o : LOp} (ho : opErr o = 0) : nOf d.known o.dot = (cnt d o.dot.who : Int) := h.says.known _ (op_ok ho).1
theorem clash_none {U : List LOp} {n : Nat} {d : LDoc} {o : LOp} (hU : Univ U n) (hd : Part U d) (ho : o ∈ U) : d.turnE o ≠ 7 := by
  have hp := hU.good o ho
  obtain ⟨p1, p2, p3, p4, p5, p6, p7, p8⟩ := op_ok hp
  have hb := bookErr_zero hd.ok.book
  have hm := marks_zero hd.ok.marks
  have hr : bookReady d.book o.place = 0 := by unfold bookReady; rw [if_neg (by omega)]; exact p3
  have hput : putErr d.book ≠ 7 := by unfold putErr; split <;> simp
  have hme : markErr ⟨o.place, o.dot⟩ = 0 := by unfold markErr; simp only; rw [if_neg (by omega)]; exact p1
  unfold LDoc.turnE
  rcases (show o.what = 1 ∨ o.what = 2 ∨ o.what = 3 ∨ o.what = 4 by omega) with hw | hw | hw | hw
  · rw [if_pos hw]
    unfold writeErr
    rw [if_neg (by omega), if_neg (by rw [p4 hw]; decide)]
    split
    · exact hput
    rename_i hat
    have hat : hasAt d.book o.place = true := by simpa using hat
    split
    · rename_i hl
      exfalso
      have ho2 : old d.book o.place = leafAt d.book o.place := if_pos hat
      obtain ⟨x, hx, hx1, hx2⟩ := hd.says.blank o.place (by rw [ho2]; exact hl.1)
      have h3 := hd.says.letter x hx hx1
      rw [hx2, ho2] at h3
      exact hl.2 (h3.trans (hU.letter x (hd.sub x hx) o ho hx1 hw hx2))
    · decide
  · rw [if_neg (by omega), if_pos hw]
    unfold strikeErr
    rw [if_neg (by omega)]
    split
    · exact hput
    · decide
  · rw [if_neg (by omega), if_neg (by omega), if_pos hw]
    unfold LDoc.cutE
    split
    · decide
    · unfold cutErr
      rw [if_neg (by omega), if_neg (by omega)]
      split
      · decide
      split
      · decide
      · decide
  · rw [if_neg (by omega), if_neg (by omega), if_neg (by omega), if_pos hw]
    unfold LDoc.joinE joinErr
    rw [if_neg (by omega), if_neg (by omega), if_neg (by omega), p8]
    decide
/-- An op that is not too far comes. -/
theorem apply_part {U : List LOp} {n : Nat} {d : LDoc} {o : LOp} (hU : Univ U n) (hd : Part U d) (ho : o ∈ U) (hn : o.dot.n ≤ (cnt d o.dot.who : Int) + 1) :
    (d.applyE o = 0 ∨ d.applyE o = 4) ∧ Part U (d.apply o) ∧ (∀ i, cnt d i ≤ cnt (d.apply o) i) ∧ (d.applyE o = 0 → o.dot.n ≤ (cnt (d.apply o) o.dot.who : Int)) ∧ (∀ x ∈ d.ops, x ∈ (d.apply o).ops) := by
  have hp := hU.good o ho
  have p1 := (op_ok hp).1
  have h6 := hd.known hp
  have hv : vdErr d.known o.dot = 0 := by unfold vdErr; rw [if_neg (fun h => h hd.ok.known)]; exact p1
  have hE : d.applyE o = 0 ∨ d.applyE o = 4 := by
    unfold LDoc.applyE
    rw [if_neg (by omega), if_neg (by omega)]
    by_cases hh : hasRes d.known o.dot = true
    · rw [if_pos hh]; exact .inl rfl
    rw [if_neg hh]
    have hlt : nOf d.known o.dot < o.dot.n := by
      have hh : hasRes d.known o.dot = false := by simpa using hh
      unfold hasRes at hh
      rw [hv] at hh
      simp at hh
      omega
    have ha : addErr d.known o.dot = 0 := by
      unfold addErr
      rw [if_neg (by omega), if_neg (by omega), if_neg (by omega)]
    rw [if_neg (by omega)]
    split
    · exact .inr rfl
    · rcases LDoc.turnE_few hd.ok hp with h | h | h
      · exact .inl h
      · exact absurd h (clash_none hU hd ho)
      · exact .inr h
  have hP : Part U (d.apply o) := by
    refine ⟨LDoc.apply_ok hd.ok o, LDoc.apply_says hd.ok hd.says o, LDoc.apply_numbered hd.ok hd.says hd.num o, fun x hx => ?_⟩
    rcases LDoc.apply_three (d := d) o with ⟨_, _, q⟩ | ⟨_, _, q⟩ | ⟨_, _, q⟩
    · rw [q] at hx
      rcases List.mem_append.1 hx with hx | hx
      · exact hd.sub x hx
      · simp at hx; subst hx; exact ho
    · rw [q] at hx; exact hd.sub x hx
    · rw [q] at hx; exact hd.sub x hx
  refine ⟨hE, hP, fun i => ?_, fun h0 => ?_, fun x hx => ?_⟩
  · unfold cnt
    rcases LDoc.apply_three (d := d) o with ⟨_, _, q⟩ | ⟨_, _, q⟩ | ⟨_, _, q⟩
    · rw [q, ofWho_add, List.length_append]; omega
    · rw [q]; omega
    · rw [q]; omega
  · rcases Int.lt_or_le (nOf d.known o.dot) o.dot.n with hlt | hle
    · obtain ⟨q1, q2, q3, q4, q5⟩ := LDoc.apply_new hd.ok h0 (by omega)
      have e : (d.apply o).ops = d.ops ++ [o] := by rw [q5]
      unfold cnt at hn ⊢
      rw [e, ofWho_add, List.length_append]
      have : ofWho o.dot.who [o] = [o] := by simp [ofWho]
      rw [this]
      simp only [List.length_cons, List.length_nil]
      push_cast
      omega
    · have hh : hasRes d.known o.dot = true := by unfold hasRes; rw [hv]; simp; omega
      have hB : d.applyB o = false := by unfold LDoc.applyB; rw [hh, hp]; simp
      have e : d.apply o = d := by unfold LDoc.apply; rw [hB]; simp
      rw [e]; omega
  · rcases LDoc.apply_three (d := d) o with ⟨_, _, q⟩ | ⟨_, _, q⟩ | ⟨_, _, q⟩
    · rw [q]; simp [hx]
    · rw [q]; exact hx
    · rw [q]; exact hx
/-- Ops one behind the other come. -/
theorem run_do {U : List LOp} {n : Nat} (hU : Univ U n) : ∀ (l : List LOp) (d : LDoc) (s : Int → Nat), Part U d → (∀ o ∈ l, o ∈ U) → Runs l s → (∀ i, s i ≤ cnt d i) →
    (d.doE l = 0 ∨ d.doE l = 4) ∧ Part U (d.doR l) ∧ (∀ i, cnt d i ≤ cnt (d.doR l) i) ∧ (d.doE l = 0 → ∀ i, s i + (ofWho i l).length ≤ cnt (d.doR l) i) ∧ (∀ x ∈ d.ops, x ∈ (d.doR l).ops)
  | [], d, s => fun hd _ _ hs => ⟨.inl rfl, hd, fun i => Nat.le_refl _, fun _ i => by show s i + 0 ≤ _; exact hs i, fun x hx => hx⟩
  | o :: t, d, s => fun hd hl hr hs => by
    have h0 := hr o.dot.who 0 o (by simp [ofWho])
    obtain ⟨a1, a2, a3, a4, a5⟩ := apply_part hU hd (hl o (by simp)) (by have := hs o.dot.who; omega)
    unfold LDoc.doE LDoc.doR
    by_cases he : d.applyE o ≠ 0
    · rw [if_pos he, if_pos he]
      exact ⟨.inr (by omega), hd, fun i => Nat.le_refl _, fun h => absurd h he, fun x hx => hx⟩
    · rw [if_neg he, if_neg he]
      have he0 : d.applyE o = 0 := by omega
      have hs2 : ∀ i, (if i = o.dot.who then s i + 1 else s i) ≤ cnt (d.apply o) i := fun i => by
        by_cases hi : i = o.dot.who
        · rw [if_pos hi]; subst hi
          have := a4 he0
          omega
        · rw [if_neg hi]; have := a3 i; have := hs i; omega
      have hr2 : Runs t (fun i => if i = o.dot.who then s i + 1 else s i) := fun i k x hx => by
        by_cases hi : i = o.dot.who
        · have e : ofWho i (o :: t) = o :: ofWho i t := by simp [ofWho, hi]
          have := hr i (k + 1) x (by rw [e]; simpa using hx)
          simp only [if_pos hi]
          push_cast at this ⊢
          omega
        · have e : ofWho i (o :: t) = ofWho i t := by
            unfold ofWho
            rw [List.filter_cons_of_neg (by simp; exact fun h => hi h.symm)]
          have := hr i k x (by rw [e]; exact hx)
          simp only [if_neg hi]
          omega
      obtain ⟨b1, b2, b3, b4, b5⟩ := run_do hU t (d.apply o) _ a2 (fun x hx => hl x (by simp [hx])) hr2 hs2
      refine ⟨b1, b2, fun i => Nat.le_trans (a3 i) (b3 i), fun h i => ?_, fun x hx => b5 x (a5 x hx)⟩
      have := b4 h i
      by_cases hi : i = o.dot.who
      · have e : ofWho i (o :: t) = o :: ofWho i t := by simp [ofWho, hi]
        simp only [if_pos hi] at this
        rw [e, List.length_cons]; omega
      · have e : ofWho i (o :: t) = ofWho i t := by
          unfold ofWho
          rw [List.filter_cons_of_neg (by simp; exact fun h => hi h.symm)]
        simp only [if_neg hi] at this
        rw [e]; exact this
/-- What one lacks of another one. -/
theorem lacks_runs {U : List LOp} {n : Nat} {a b : LDoc} (hU : Univ U n) (ha : Part U a) (hb : Part U b) : Runs (lacksR a.ops b.known) (cnt b) ∧ (∀ o ∈ lacksR a.ops b.known, o ∈ U) ∧ ∀ i, cnt a i ≤ cnt b i + (ofWho i (lacksR a.ops b.known)).length := by
  have hgood : ∀ i, (∃ o ∈ a.ops, o.dot.who = i) → dotErr ⟨i, 1⟩ = 0 := fun i ⟨o, ho, hi⟩ => by
    have h2 := (op_ok (hU.good o (ha.sub o ho))).1
    subst hi
    unfold dotErr at h2 ⊢
    split at h2
    · rw [if_pos]; simp only; omega
    · omega
  refine ⟨fun i k o ho => ?_, fun o ho => ha.sub o (List.mem_filter.1 ho).1, fun i => ?_⟩
  · obtain ⟨m1, m2⟩ := mem_ofWho.1 (List.mem_of_getElem? ho)
    have hi := hgood i ⟨o, (List.mem_filter.1 m1).1, m2⟩
    rw [numbered_known hb.ok hb.says ha.num i hi, List.getElem?_drop] at ho
    have := ha.num i _ o ho
    unfold cnt
    push_cast at this
    omega
  · unfold cnt
    rcases Nat.eq_zero_or_pos (ofWho i a.ops).length with h | h
    · omega
    · obtain ⟨o, ho⟩ := List.exists_mem_of_length_pos h
      obtain ⟨m1, m2⟩ := mem_ofWho.1 ho
      rw [numbered_known hb.ok hb.says ha.num i (hgood i ⟨o, m1, m2⟩), List.length_drop]
      omega
/-- An op of one's own, done. -/
theorem own_step {U : List LOp} {n : Nat} {d : LDoc} {o : LOp} {who : Int} (hU : Univ U n) (hd : Part U d) (hw : who ≤ (n : Int)) (hown : ∀ x ∈ U, x.dot.who = who → x ∈ d.ops)
    (hwho : o.dot.who = who) (hn : o.dot.n = (cnt d who : Int) + 1) (hf : o.what = 1 → authorOf o.place = who ∧ hasAt d.book o.place = false) (he : d.applyE o = 0) :
    Univ (U ++ [o]) n ∧ Part (U ++ [o]) (d.apply o) ∧ (∀ x ∈ U ++ [o], x.dot.who = who → x ∈ (d.apply o).ops) ∧ cnt (d.apply o) who = cnt d who + 1 ∧ (d.apply o).ops = d.ops ++ [o] := by
  have hp : opErr o = 0 := by
    by_cases h : opErr o = 0
    · exact h
    · have : d.applyE o = opErr o := by unfold LDoc.applyE; rw [if_pos h]
      omega
  have h6 := hd.known hp
  obtain ⟨q1, q2, q3, q4, q5⟩ := LDoc.apply_new hd.ok he (by rw [h6, hwho]; omega)
  have e : (d.apply o).ops = d.ops ++ [o] := by rw [q5]
  have hnew : ∀ x ∈ U, x.dot ≠ o.dot := fun x hx hxo => by
    have h1 := hown x hx (by rw [hxo]; exact hwho)
    obtain ⟨k, hk⟩ := List.mem_iff_getElem?.1 (mem_ofWho.2 ⟨h1, (by rw [hxo]; exact hwho : x.dot.who = who)⟩)
    have h2 := hd.num who k x hk
    have h3 : k < (ofWho who d.ops).length := by
      rcases Nat.lt_or_ge k (ofWho who d.ops).length with h | h
      · exact h
      · rw [List.getElem?_eq_none h] at hk; cases hk
    rw [hxo] at h2
    unfold cnt at hn
    omega
  have hplace : o.what = 1 → ∀ x ∈ U, x.what = 1 → x.place ≠ o.place := fun h1 x hx hx1 hxp => by
    obtain ⟨f1, f2⟩ := hf h1
    have := hU.write x hx hx1
    have hm := hown x hx (by rw [← this, hxp, f1])
    have := (hd.says.here o.place).2 ⟨x, hm, .inl hx1, hxp⟩
    rw [f2] at this; cases this
  refine ⟨⟨?_, ?_, ?_, ?_, ?_⟩, ⟨LDoc.apply_ok hd.ok o, LDoc.apply_says hd.ok hd.says o, LDoc.apply_numbered hd.ok hd.says hd.num o, ?_⟩, ?_, ?_, e⟩
  · intro x hx y hy hxy
    rcases List.mem_append.1 hx with gx | gx <;> rcases List.mem_append.1 hy with gy | gy
    · exact hU.agree x gx y gy hxy
    · simp at gy; subst gy; exact absurd hxy (hnew x gx)
    · simp at gx; subst gx; exact absurd hxy.symm (hnew y gy)
    · simp at gx gy; subst gx; subst gy; rfl
  · intro x hx h1
    rcases List.mem_append.1 hx with hx | hx
    · exact hU.write x hx h1
    · simp at hx; subst hx; rw [hwho]; exact (hf h1).1
  · intro x hx y hy hx1 hy1 hxy
    rcases List.mem_append.1 hx with gx | gx <;> rcases List.mem_append.1 hy with gy | gy
    · exact hU.letter x gx y gy hx1 hy1 hxy
    · simp at gy; subst gy; exact absurd hxy (hplace hy1 x gx hx1)
    · simp at gx; subst gx; exact absurd hxy.symm (hplace hx1 y gy hy1)
    · simp at gx gy; subst gx; subst gy; rfl
  · intro x hx
    rcases List.mem_append.1 hx with hx | hx
    · exact hU.good x hx
    · simp at hx; subst hx; exact hp
  · intro x hx
    rcases List.mem_append.1 hx with hx | hx
    · exact hU.who x hx
    · simp at hx; subst hx; omega
  · intro x hx
    rw [e] at hx
    rcases List.mem_append.1 hx with hx | hx
    · simp [hd.sub x hx]
    · simp [hx]
  · intro x hx hxw
    rw [e]
    rcases List.mem_append.1 hx with hx | hx
    · simp [hown x hx hxw]
    · simp [hx]
  · unfold cnt
    rw [e, ofWho_add, List.length_append]
    have : ofWho who [o] = [o] := by simp [ofWho, hwho]
    rw [this]; rfl
/-- Ops of one's own that write nothing, one behind the other. -/
theorem own_do {n : Nat} {who : Int} (hw : who ≤ (n : Int)) : ∀ (l : List LOp) {U : List LOp} {d : LDoc}, Univ U n → Part U d → (∀ x ∈ U, x.dot.who = who → x ∈ d.ops) →
    (∀ (k : Nat) (o : LOp), l[k]? = some o → o.dot = ⟨who, (cnt d who : Int) + k + 1⟩ ∧ o.what ≠ 1) →
    ∃ V, Univ V n ∧ Part V (d.doR l) ∧ (∀ x ∈ V, x.dot.who = who → x ∈ (d.doR l).ops) ∧ (∀ x ∈ U, x ∈ V) ∧ (∀ x ∈ V, x ∈ U ∨ x.dot.who = who) ∧ (∀ x ∈ d.ops, x ∈ (d.doR l).ops)
  | [], U, d => fun hU hd ho _ => ⟨U, hU, hd, ho, fun x hx => hx, fun x hx => .inl hx, fun x hx => hx⟩
  | o :: t, U, d => fun hU hd ho hl => by
    obtain ⟨l1, l2⟩ := hl 0 o rfl
    unfold LDoc.doR
    by_cases he : d.applyE o ≠ 0
    · rw [if_pos he]
      exact ⟨U, hU, hd, ho, fun x hx => hx, fun x hx => .inl hx, fun x hx => hx⟩
    · rw [if_neg he]
      obtain ⟨s1, s2, s3, s4, s5⟩ := own_step hU hd hw ho (by rw [l1]) (by rw [l1]; simp) (fun h => absurd h l2) (by omega)
      obtain ⟨V, v1, v2, v3, v4, v5, v6⟩ := own_do hw t s1 s2 s3 (fun k x hx => by
        obtain ⟨m1, m2⟩ := hl (k + 1) x (by simpa using hx)
        refine ⟨?_, m2⟩
        rw [m1, s4]
        congr 1
        push_cast
        omega)
      refine ⟨V, v1, v2, v3, fun x hx => v4 x (by simp [hx]), fun x hx => ?_, fun x hx => v6 x (by rw [s5]; simp [hx])⟩
      rcases v5 x hx with h | h
      · rcases List.mem_append.1 h with h | h
        · exact .inl h
        · simp at h; subst h; exact .inr (by rw [l1])
      · exact .inr h
end Go.Proofs.YtkaccnegdmpofaaGreatDoor
/- A net in which nothing is done twice by one dot: its events, plain. Conditions: none. -/
namespace Go.Proofs.YtkaccnegdmpofaaGreatDoor
open Go.RowKit
set_option linter.unusedVariables false
/-- The strikes that a maker makes. -/
theorem strikes_ops (a b : Int) : ∀ (l : List LLeaf) (at_ : Int) (m : LMk), ∃ L, (LMk.strikes a b l at_ m).ops = m.ops ++ L ∧ (LMk.strikes a b l at_ m).who = m.who ∧ (LMk.strikes a b l at_ m).n = m.n + L.length ∧
    ∀ (k : Nat) (o : LOp), L[k]? = some o → o.dot = ⟨m.who, m.n + k + 1⟩ ∧ o.what ≠ 1
  | [], at_, m => ⟨[], by simp [LMk.strikes], rfl, by simp [LMk.strikes], by simp⟩
  | x :: l, at_, m => by
    unfold LMk.strikes
    by_cases hs : seenB x = true
    · rw [if_pos hs]
      by_cases ha : a ≤ at_ ∧ at_ < b
      · rw [if_pos ha]
        obtain ⟨L, h1, h2, h3, h4⟩ := strikes_ops a b l (at_ + 1) (m.st x.place)
        refine ⟨m.put ⟨⟨0, 0⟩, 2, x.place, 0, []⟩ :: L, ?_, h2, ?_, ?_⟩
        · rw [h1]; simp [LMk.st, LMk.add]
        · rw [h3]; simp only [LMk.st, LMk.add, List.length_cons]; push_cast; omega
        · intro k o ho
          cases k with
          | zero =>
            simp at ho; subst ho
            exact ⟨by simp [LMk.put], by simp [LMk.put]⟩
          | succ k =>
            obtain ⟨g1, g2⟩ := h4 k o (by simpa using ho)
            refine ⟨?_, g2⟩
            rw [g1]
            simp only [LMk.st, LMk.add]
            congr 1
            push_cast; omega
      · rw [if_neg ha]
        exact strikes_ops a b l (at_ + 1) m
    · rw [if_neg hs]
      exact strikes_ops a b l at_ m
theorem oneT_list (c : Int) : (oneT c).toList = [UInt8.ofNat c.toNat] := by
  have : oneT c = strOf [UInt8.ofNat c.toNat] := rfl
  rw [this, strOf_toList]
namespace LDoc
theorem maker_n {U : List LOp} {d : LDoc} (hd : Part U d) {who : Int} (hw : whoE who = 0) : nOf d.known ⟨who, 0⟩ = (cnt d who : Int) := by
  obtain ⟨h1, _, _⟩ := who_dot hw
  exact (nOf_who d.known (d := ⟨who, 0⟩) (e := ⟨who, 1⟩) rfl).trans (hd.says.known ⟨who, 1⟩ h1)
/-- What an edit does to a document of one's own. -/
theorem edit_own {U : List LOp} {n : Nat} {d : LDoc} (e : LEv) (hU : Univ U n) (hd : Part U d) (hw0 : 0 ≤ e.a) (hw : e.a + 1 ≤ (n : Int)) (hown : ∀ x ∈ U, x.dot.who = e.a + 1 → x ∈ d.ops) :
    ∃ V, Univ V n ∧ Part V (d.editR e) ∧ (∀ x ∈ V, x.dot.who = e.a + 1 → x ∈ (d.editR e).ops) ∧ (∀ x ∈ U, x ∈ V) ∧ (∀ x ∈ V, x ∈ U ∨ x.dot.who = e.a + 1) ∧ (∀ x ∈ d.ops, x ∈ (d.editR e).ops) := by
  have triv : ∃ V, Univ V n ∧ Part V d ∧ (∀ x ∈ V, x.dot.who = e.a + 1 → x ∈ d.ops) ∧ (∀ x ∈ U, x ∈ V) ∧ (∀ x ∈ V, x ∈ U ∨ x.dot.who = e.a + 1) ∧ (∀ x ∈ d.ops, x ∈ d.ops) := ⟨U, hU, hd, hown, fun x hx => hx, fun x hx => .inl hx, fun x hx => hx⟩
  unfold editR
  by_cases he : d.evE e ≠ 0
  · rw [if_pos he]; exact triv
  rw [if_neg he]
  have he0 : d.evE e = 0 := by omega
  unfold evE at he0
  unfold evL
  by_cases h1 : e.what = 1
  · rw [if_pos h1] at he0 ⊢
    split at he0
    · cases he0
    obtain ⟨i1, i2, i3, i4⟩ := ins_ok he0
    rw [i3]
    rw [oneT_list] at i4 ⊢
    obtain ⟨o, ho⟩ : ∃ o : LOp, o = ⟨⟨e.a + 1, nOf d.known ⟨e.a + 1, 0⟩ + 1⟩, 1, strOf (betweenRes (leftOf d.book e.b) (rightOf d.book (idxOf d.book e.b)) (e.a + 1)), ((UInt8.ofNat e.c.toNat).toNat : Nat), []⟩ := ⟨_, rfl⟩
    have hts : typedOps (e.a + 1) (rightOf d.book (idxOf d.book e.b)) [UInt8.ofNat e.c.toNat] (leftOf d.book e.b) (nOf d.known ⟨e.a + 1, 0⟩) = [o] := by rw [ho]; rfl
    have hgood : authorOf o.place = e.a + 1 := by rw [ho]; exact (good_of i4.1).who
    have hw2 : o.dot.who = e.a + 1 := by rw [ho]
    have hn2 : o.dot.n = (cnt d (e.a + 1) : Int) + 1 := by rw [ho]; show nOf d.known ⟨e.a + 1, 0⟩ + 1 = _; rw [maker_n hd i1]
    have hins : d.insR (e.a + 1) e.b (oneT e.c) = [o] := by rw [i3, oneT_list, hts]
    rw [hts]
    clear hts ho i3 i4
    have hone : d.doR [o] = if d.applyE o ≠ 0 then d else d.apply o := rfl
    rw [hone]
    by_cases ha : d.applyE o ≠ 0
    · rw [if_pos ha]; exact triv
    rw [if_neg ha]
    have hdo : d.doE (d.insR (e.a + 1) e.b (oneT e.c)) = 0 := by
      rw [hins]
      show (if d.applyE o ≠ 0 then d.applyE o else 0) = 0
      rw [if_neg ha]
    obtain ⟨n1, _⟩ := ins_none hd.ok he0 hdo
    rw [hins] at n1
    obtain ⟨s1, s2, s3, s4, s5⟩ := own_step (who := e.a + 1) hU hd hw hown hw2 hn2 (fun _ => ⟨hgood, n1 o (by simp)⟩) (by omega)
    exact ⟨_, s1, s2, s3, fun x hx => by simp [hx], fun x hx => by
      rcases List.mem_append.1 hx with hx | hx
      · exact .inl hx
      · simp at hx; subst hx; exact .inr hw2, fun x hx => by rw [s5]; simp [hx]⟩
  rw [if_neg h1] at he0 ⊢
  have single : ∀ (o : LOp), whoE (e.a + 1) = 0 → o.what ≠ 1 → ∃ V, Univ V n ∧ Part V (d.doR ((d.maker (e.a + 1)).add o).ops) ∧ (∀ x ∈ V, x.dot.who = e.a + 1 → x ∈ (d.doR ((d.maker (e.a + 1)).add o).ops).ops) ∧ (∀ x ∈ U, x ∈ V) ∧ (∀ x ∈ V, x ∈ U ∨ x.dot.who = e.a + 1) ∧ (∀ x ∈ d.ops, x ∈ (d.doR ((d.maker (e.a + 1)).add o).ops).ops) := fun o h2 h3 => by
    refine own_do hw _ hU hd hown ?_
    intro k x hx
    have e1 : ((d.maker (e.a + 1)).add o).ops = [(d.maker (e.a + 1)).put o] := by simp [LMk.add, maker]
    rw [e1] at hx
    cases k with
    | zero =>
      simp at hx; subst hx
      exact ⟨by simp [LMk.put, maker, maker_n hd h2], h3⟩
    | succ k => simp at hx
  by_cases h2 : e.what = 2
  · rw [if_pos h2] at he0 ⊢
    split at he0
    · rename_i ha; exact absurd he0 ha
    have hwo : whoE (e.a + 1) = 0 := by
      by_cases h : whoE (e.a + 1) = 0
      · exact h
      · unfold delE at he0; rw [if_pos h] at he0; cases he0
    unfold delR
    rw [if_pos he0]
    unfold delE at he0
    rw [if_neg (by rw [hwo]; simp)] at he0
    unfold LMk.del at he0 ⊢
    split at he0
    · cases he0
    rename_i hc
    rw [if_neg hc]
    simp only
    obtain ⟨L, l1, l2, l3, l4⟩ := strikes_ops e.b (e.b + 1) d.book 0 (d.maker (e.a + 1))
    have e0 : (d.maker (e.a + 1)).ops = [] := rfl
    rw [l1, e0, List.nil_append]
    refine own_do hw L hU hd hown (fun k o ho => ?_)
    obtain ⟨g1, g2⟩ := l4 k o ho
    refine ⟨?_, g2⟩
    rw [g1]
    simp only [maker]
    rw [maker_n hd hwo]
  rw [if_neg h2] at he0 ⊢
  by_cases h7 : e.what = 7
  · rw [if_pos h7] at he0 ⊢
    have hwo : whoE (e.a + 1) = 0 := by
      by_cases h : whoE (e.a + 1) = 0
      · exact h
      · unfold splE at he0; rw [if_pos h] at he0; cases he0
    unfold splR
    rw [if_pos he0]
    exact single _ hwo (by simp)
  · rw [if_neg h7] at he0 ⊢
    have hwo : whoE (e.a + 1) = 0 := by
      by_cases h : whoE (e.a + 1) = 0
      · exact h
      · unfold fusE at he0; rw [if_pos h] at he0; cases he0
    unfold fusR
    rw [if_pos he0]
    exact single _ hwo (by simp)
end LDoc
/-- A net in order: all its ops are of U, each node has its author's; what is under way continues what is known where it goes. -/
structure Fair (U : List LOp) (N : LNet) : Prop where
  ok : N.Ok
  univ : Univ U N.docs.length
  part : ∀ i, i < N.docs.length → Part U (N.doc i)
  own : ∀ i, i < N.docs.length → ∀ o ∈ U, o.dot.who = (i : Int) + 1 → o ∈ (N.doc i).ops
  mail : ∀ p ∈ N.under, ∃ l s, unpackOf p.2.data.toList = some l ∧ (∀ o ∈ l, o ∈ U) ∧ Runs l s ∧ ∀ i, s i ≤ cnt (N.doc p.1.toNat) i
namespace LNet
theorem doc_set {N : LNet} {i : Nat} {d : LDoc} {u : List (Int × ByteArray)} (hi : i < N.docs.length) (k : Nat) : LNet.doc ⟨N.docs.set i d, u⟩ k = if k = i then d else N.doc k := by
  unfold LNet.doc
  simp only
  by_cases hk : k = i
  · subst hk; rw [if_pos rfl, List.getD, List.getElem?_set_self hi]; rfl
  · rw [if_neg hk, List.getD, List.getD, List.getElem?_set_ne (by omega)]
theorem doc_new {n : Nat} (i : Nat) : (new n).doc i = LDoc.new := by
  unfold LNet.doc new
  simp only
  rw [List.getD, List.getElem?_replicate]
  split <;> rfl
end LNet
theorem cnt_mono {a b : LDoc} (h : ∀ x ∈ a.ops, x ∈ b.ops) (ha : Numbered a.ops) (hb : Numbered b.ops) : ∀ i, cnt a i ≤ cnt b i := fun i => by
  unfold cnt
  rcases Nat.eq_zero_or_pos (ofWho i a.ops).length with h0 | h0
  · omega
  · obtain ⟨x, hx⟩ : ∃ x, (ofWho i a.ops)[(ofWho i a.ops).length - 1]? = some x := ⟨_, List.getElem?_eq_getElem (by omega)⟩
    have h1 := ha i _ x hx
    obtain ⟨m1, m2⟩ := mem_ofWho.1 (List.mem_of_getElem? hx)
    obtain ⟨k, hk⟩ := List.mem_iff_getElem?.1 (mem_ofWho.2 ⟨h x m1, m2⟩)
    have h2 := hb i k x hk
    have h3 : k < (ofWho i b.ops).length := by
      rcases Nat.lt_or_ge k (ofWho i b.ops).length with h | h
      · exact h
      · rw [List.getElem?_eq_none h] at hk; cases hk
    omega
namespace Fair
variable {U : List LOp} {N : LNet}
theorem new {n : Nat} (h1 : 1 ≤ n) (h4 : n ≤ 4) : Fair [] (LNet.new n) where
  ok := LNet.new_ok h1 h4
  univ := ⟨by simp, by simp, by simp, by simp, by simp⟩
  part := fun i _ => by rw [LNet.doc_new]; exact Part.new _
  own := by simp
  mail := by simp [LNet.new]
theorem edit (h : Fair U N) (e : LEv) : ∃ V, Fair V (N.edit e) ∧ ∀ x ∈ U, x ∈ V := by
  unfold LNet.edit
  split
  · exact ⟨U, h, fun x hx => hx⟩
  rename_i hb
  obtain ⟨b1, b2⟩ := LNet.nodeB_iff.1 (by simpa using hb : N.nodeB e.a = true)
  have hi : e.a.toNat < N.docs.length := by omega
  obtain ⟨V, v1, v2, v3, v4, v5, v6⟩ := LDoc.edit_own e h.univ (h.part _ hi) b1 (by omega) (fun x hx hxw => h.own _ hi x hx (by omega))
  refine ⟨V, ⟨h.ok.set _ (LNet.editR_ok (h.ok.doc _) e), ?_, fun i hi2 => ?_, fun i hi2 o ho how => ?_, fun p hp => ?_⟩, v4⟩
  · simp only [List.length_set]; exact v1
  · simp only [List.length_set] at hi2
    rw [LNet.doc_set hi]
    split
    · exact v2
    · exact (h.part i hi2).more v4
  · simp only [List.length_set] at hi2
    rw [LNet.doc_set hi]
    split
    · rename_i hii
      subst hii
      exact v3 o ho (by omega)
    · rename_i hii
      rcases v5 o ho with h5 | h5
      · exact h.own i hi2 o h5 how
      · omega
  · obtain ⟨l, s, m1, m2, m3, m4⟩ := h.mail p hp
    refine ⟨l, s, m1, fun o ho => v4 o (m2 o ho), m3, fun i => ?_⟩
    rw [LNet.doc_set hi]
    split
    · rename_i hii
      have := m4 i
      rw [hii] at this
      exact Nat.le_trans this (cnt_mono v6 (h.part _ hi).num v2.num i)
    · exact m4 i
theorem send (h : Fair U N) (i j : Int) : Fair U (N.send i j) := by
  have ok2 := h.ok.send i j
  unfold LNet.send at ok2 ⊢
  split
  · exact h
  rename_i he
  rw [if_neg he] at ok2
  unfold LNet.sendE at he
  split at he
  · omega
  rename_i hn
  obtain ⟨i1, i2⟩ := LNet.nodeB_iff.1 (by cases hh : N.nodeB i <;> simp_all : N.nodeB i = true)
  obtain ⟨j1, j2⟩ := LNet.nodeB_iff.1 (by cases hh : N.nodeB j <;> simp_all : N.nodeB j = true)
  refine ⟨ok2, h.univ, h.part, h.own, fun p hp => ?_⟩
  rcases List.mem_append.1 hp with hp | hp
  · exact h.mail p hp
  · simp only [List.mem_cons, List.not_mem_nil, or_false] at hp
    subst hp
    have hi : i.toNat < N.docs.length := by omega
    have hj : j.toNat < N.docs.length := by omega
    obtain ⟨r1, r2, r3⟩ := lacks_runs h.univ (h.part _ hi) (h.part _ hj)
    refine ⟨lacksR (N.doc i.toNat).ops (N.doc j.toNat).known, cnt (N.doc j.toNat), ?_, r2, r1, fun k => Nat.le_refl _⟩
    have hfew := (h.part _ hi).ok.few
    have hl : (lacksR (N.doc i.toNat).ops (N.doc j.toNat).known).length ≤ (N.doc i.toNat).ops.length := List.length_filter_le _ _
    have hp : packErr (lacksR (N.doc i.toNat).ops (N.doc j.toNat).known) = 0 := by
      unfold packErr
      rw [if_neg (by omega)]
      exact opsErr_of (fun o ho => h.univ.good o (r2 o ho))
    have e1 : (LDoc.parc (N.doc i.toNat) (N.doc j.toNat).known).data.toList = packBytes (lacksR (N.doc i.toNat).ops (N.doc j.toNat).known) := by
      unfold LDoc.parc packRes
      rw [if_pos hp]
      simp [strOf]
    simp only
    rw [e1]
    exact unpack_pack hp
theorem take_ (h : Fair U N) (k : Nat) : ∀ p ∈ N.under.eraseIdx k, p ∈ N.under := fun p hp => List.mem_of_mem_eraseIdx hp
/-- A parcel that comes: nothing is wrong but that there is no room. -/
theorem open_ (h : Fair U N) {p : Int × ByteArray} (hp : p ∈ N.under) : ((N.doc p.1.toNat).openE p.2 = 0 ∨ (N.doc p.1.toNat).openE p.2 = 4) ∧ Part U ((N.doc p.1.toNat).openR p.2) ∧ (∀ x ∈ (N.doc p.1.toNat).ops, x ∈ ((N.doc p.1.toNat).openR p.2).ops) := by
  obtain ⟨l, s, m1, m2, m3, m4⟩ := h.mail p hp
  obtain ⟨t1, t2⟩ := h.ok.goes p hp
  have hi : p.1.toNat < N.docs.length := by omega
  obtain ⟨r1, r2, r3, r4, r5⟩ := run_do h.univ l _ s (h.part _ hi) m2 m3 m4
  have e1 : (N.doc p.1.toNat).openE p.2 = (N.doc p.1.toNat).doE l := by unfold LDoc.openE; rw [m1]
  have e2 : (N.doc p.1.toNat).openR p.2 = (N.doc p.1.toNat).doR l := by unfold LDoc.openR; rw [m1]
  rw [e1, e2]
  exact ⟨r1, r2, r5⟩
theorem mail_ (h : Fair U N) (e : LEv) : Fair U (N.mail e) := by
  have ok2 := h.ok.mail e
  unfold LNet.mail at ok2 ⊢
  split
  · exact h
  rename_i hm
  rw [if_neg hm] at ok2
  obtain ⟨hi, h1, h2⟩ := LNet.mail_get hm
  split
  · rename_i h6
    rw [if_pos h6] at ok2
    split
    · exact h
    · rename_i hf
      rw [if_neg hf] at ok2
      refine ⟨ok2, h.univ, h.part, h.own, fun p hp => ?_⟩
      rcases List.mem_append.1 hp with hp | hp
      · exact h.mail p hp
      · simp only [List.mem_cons, List.not_mem_nil, or_false] at hp
        subst hp
        rw [h1]
        exact h.mail _ (List.getElem_mem hi)
  rename_i h6
  rw [if_neg h6] at ok2
  split
  · rename_i h5
    rw [if_pos h5] at ok2
    exact ⟨ok2, h.univ, h.part, h.own, fun p hp => h.mail p (h.take_ _ p hp)⟩
  · rename_i h5
    rw [if_neg h5] at ok2
    have hmem : N.mailAt e.a.toNat ∈ N.under := by rw [h1]; exact List.getElem_mem hi
    obtain ⟨o1, o2, o3⟩ := h.open_ hmem
    obtain ⟨t1, t2⟩ := h.ok.goes _ hmem
    have hto : (N.mailAt e.a.toNat).1.toNat < N.docs.length := by omega
    refine ⟨ok2, by simp only [List.length_set]; exact h.univ, fun i hi2 => ?_, fun i hi2 o ho how => ?_, fun p hp => ?_⟩
    · simp only [List.length_set] at hi2
      rw [LNet.doc_set hto]
      split
      · exact o2
      · exact h.part i hi2
    · simp only [List.length_set] at hi2
      rw [LNet.doc_set hto]
      split
      · rename_i hii
        subst hii
        exact o3 o (h.own _ hi2 o ho how)
      · exact h.own i hi2 o ho how
    · obtain ⟨l, s, m1, m2, m3, m4⟩ := h.mail p (h.take_ _ p hp)
      refine ⟨l, s, m1, m2, m3, fun i => ?_⟩
      rw [LNet.doc_set hto]
      split
      · rename_i hii
        have := m4 i
        rw [hii] at this
        exact Nat.le_trans this (cnt_mono o3 (h.part _ hto).num o2.num i)
      · exact m4 i
theorem do_ (h : Fair U N) (e : LEv) : ∃ V, Fair V (N.do_ e) ∧ ∀ x ∈ U, x ∈ V := by
  unfold LNet.do_
  split
  · exact h.edit e
  split
  · exact ⟨U, h.send _ _, fun x hx => hx⟩
  split
  · exact ⟨U, h.mail_ e, fun x hx => hx⟩
  · exact ⟨U, h, fun x hx => hx⟩
end Fair
end Go.Proofs.YtkaccnegdmpofaaGreatDoor
/- Each sends to each, and all comes: plain. Conditions: none. -/
namespace Go.Proofs.YtkaccnegdmpofaaGreatDoor
open Go.RowKit
set_option linter.unusedVariables false
/-- The event that the first parcel comes. -/
def dlv : LEv := ⟨4, 0, 0, 0⟩
def sndE (i j : Int) : LEv := ⟨3, i, j, 0⟩
theorem ofWho_same {U : List LOp} {n : Nat} {a b : LDoc} (hU : Univ U n) (ha : Part U a) (hb : Part U b) (i : Int) (h : cnt a i = cnt b i) : ofWho i a.ops = ofWho i b.ops := by
  unfold cnt at h
  apply List.ext_getElem h
  intro k h1 h2
  have e1 := ha.num i k _ (List.getElem?_eq_getElem h1)
  have e2 := hb.num i k _ (List.getElem?_eq_getElem h2)
  have m1 := mem_ofWho.1 (List.getElem_mem h1)
  have m2 := mem_ofWho.1 (List.getElem_mem h2)
  refine hU.agree _ (ha.sub _ m1.1) _ (hb.sub _ m2.1) ?_
  have w1 := m1.2
  have w2 := m2.2
  generalize (ofWho i a.ops)[k] = x at *
  generalize (ofWho i b.ops)[k] = y at *
  obtain ⟨⟨xw, xn⟩, _, _, _, _⟩ := x
  obtain ⟨⟨yw, yn⟩, _, _, _, _⟩ := y
  simp only at e1 e2 w1 w2
  rw [e1, e2, w1, w2]
namespace Fair
variable {U : List LOp} {N : LNet}
theorem own_most (h : Fair U N) {a : Nat} (ha : a < N.docs.length) {d : LDoc} (hd : Part U d) : cnt d ((a : Int) + 1) ≤ cnt (N.doc a) ((a : Int) + 1) := by
  have e : ∀ x ∈ ofWho ((a : Int) + 1) d.ops, x ∈ (N.doc a).ops := fun x hx => by
    obtain ⟨m1, m2⟩ := mem_ofWho.1 hx
    exact h.own a ha x (hd.sub x m1) m2
  unfold cnt
  rcases Nat.eq_zero_or_pos (ofWho ((a : Int) + 1) d.ops).length with h0 | h0
  · omega
  · obtain ⟨x, hx⟩ : ∃ x, (ofWho ((a : Int) + 1) d.ops)[(ofWho ((a : Int) + 1) d.ops).length - 1]? = some x := ⟨_, List.getElem?_eq_getElem (by omega)⟩
    have h1 := hd.num _ _ x hx
    have hm := List.mem_of_getElem? hx
    obtain ⟨k, hk⟩ := List.mem_iff_getElem?.1 (mem_ofWho.2 ⟨e x hm, (mem_ofWho.1 hm).2⟩)
    have h2 := (h.part a ha).num _ k x hk
    have h3 : k < (ofWho ((a : Int) + 1) (N.doc a).ops).length := by
      rcases Nat.lt_or_ge k (ofWho ((a : Int) + 1) (N.doc a).ops).length with h | h
      · exact h
      · rw [List.getElem?_eq_none h] at hk; cases hk
    omega
theorem cnt_own (h : Fair U N) {a b : Nat} (ha : a < N.docs.length) (hb : b < N.docs.length) : cnt (N.doc b) ((a : Int) + 1) ≤ cnt (N.doc a) ((a : Int) + 1) := h.own_most ha (h.part b hb)
/-- All have of each author as many as the author's node: then all are the same. -/
theorem same (h : Fair U N) (hall : ∀ a b, a < N.docs.length → b < N.docs.length → cnt (N.doc b) ((a : Int) + 1) = cnt (N.doc a) ((a : Int) + 1)) : ∀ a b, a < N.docs.length → b < N.docs.length →
    (∀ i, ofWho i (N.doc a).ops = ofWho i (N.doc b).ops) ∧ (N.doc a).book = (N.doc b).book ∧ (N.doc a).marks = (N.doc b).marks ∧ (N.doc a).known = (N.doc b).known := fun a b ha hb => by
  have hc : ∀ i, cnt (N.doc a) i = cnt (N.doc b) i := fun i => by
    by_cases hi : 1 ≤ i ∧ i ≤ (N.docs.length : Int)
    · have h1 := hall (i - 1).toNat a (by omega) ha
      have h2 := hall (i - 1).toNat b (by omega) hb
      rw [show (((i - 1).toNat : Nat) : Int) + 1 = i by omega] at h1 h2
      omega
    · have hz : ∀ d, Part U d → cnt d i = 0 := fun d hd => by
        unfold cnt
        rw [List.length_eq_zero_iff, List.eq_nil_iff_forall_not_mem]
        intro x hx
        obtain ⟨m1, m2⟩ := mem_ofWho.1 hx
        have hu := hd.sub x m1
        have h1 := h.univ.who x hu
        have h2 := (op_ok (h.univ.good x hu)).1
        unfold dotErr at h2
        split at h2
        · omega
        · omega
      rw [hz _ (h.part a ha), hz _ (h.part b hb)]
  have hw : ∀ i, ofWho i (N.doc a).ops = ofWho i (N.doc b).ops := fun i => ofWho_same h.univ (h.part a ha) (h.part b hb) i (hc i)
  exact ⟨hw, Says.same (h.part a ha).says (h.part b hb).says (h.part a ha).ok (h.part b hb).ok hw⟩
theorem sameB (h : Fair U N) (hall : ∀ a b, a < N.docs.length → b < N.docs.length → cnt (N.doc b) ((a : Int) + 1) = cnt (N.doc a) ((a : Int) + 1)) : N.sameB = true := by
  unfold LNet.sameB
  rw [List.all_eq_true]
  intro d hd
  obtain ⟨i, hi, rfl⟩ := List.getElem_of_mem hd
  have := h.same hall i 0 hi (by omega)
  rw [← LNet.doc_get hi]
  simp only [decide_eq_true_eq]
  exact ⟨this.2.1, this.2.2.1⟩
/-- One sends to another one, and it comes. -/
theorem mesh (h : Fair U N) (hu : N.under = []) {i j : Nat} (hi : i < N.docs.length) (hj : j < N.docs.length) (hij : i ≠ j) :
    N.doE (sndE i j) = 0 ∧ (((N.do_ (sndE i j)).doE dlv = 0 ∨ (N.do_ (sndE i j)).doE dlv = 4) ∧ ((N.do_ (sndE i j)).do_ dlv).under = [] ∧ ((N.do_ (sndE i j)).do_ dlv).docs.length = N.docs.length ∧ Fair U ((N.do_ (sndE i j)).do_ dlv) ∧
      (∀ k w, cnt (N.doc k) w ≤ cnt (((N.do_ (sndE i j)).do_ dlv).doc k) w) ∧ (∀ k, k ≠ j → ((N.do_ (sndE i j)).do_ dlv).doc k = N.doc k) ∧ ((N.do_ (sndE i j)).doE dlv = 0 → ∀ w, cnt (N.doc i) w ≤ cnt (((N.do_ (sndE i j)).do_ dlv).doc j) w) ∧
      ∃ L, (N.do_ (sndE i j)).doE dlv = (N.doc j).doE L ∧ ((N.do_ (sndE i j)).do_ dlv).doc j = (N.doc j).doR L ∧ (∀ o ∈ L, o ∈ U) ∧ Runs L (cnt (N.doc j))) := by
  have s0 : N.sendE i j = 0 := by
    unfold LNet.sendE
    rw [if_neg, if_neg (by omega), if_neg (by rw [hu]; simp)]
    rintro (hh | hh)
    · have := LNet.nodeB_iff.2 (show (0 : Int) ≤ (i : Int) ∧ (i : Int) < N.docs.length by omega); rw [hh] at this; cases this
    · have := LNet.nodeB_iff.2 (show (0 : Int) ≤ (j : Int) ∧ (j : Int) < N.docs.length by omega); rw [hh] at this; cases this
  have e1 : N.doE (sndE i j) = N.sendE i j := by unfold LNet.doE sndE; rw [if_neg (by unfold LNet.editB; simp), if_pos rfl]
  have e2 : N.do_ (sndE i j) = N.send i j := by unfold LNet.do_ sndE; rw [if_neg (by unfold LNet.editB; simp), if_pos rfl]
  have hf := h.send i j
  have e3 : N.send i j = { N with under := [((j : Int), (N.doc i).parc (N.doc j).known)] } := by
    unfold LNet.send
    rw [if_neg (by omega), hu]
    simp
  rw [e1, e2]
  refine ⟨s0, ?_⟩
  rw [e3] at hf ⊢
  generalize hM : ({ N with under := [((j : Int), (N.doc i).parc (N.doc j).known)] } : LNet) = M at hf ⊢
  have hMd : M.docs = N.docs := by rw [← hM]
  have hMu : M.under = [((j : Int), (N.doc i).parc (N.doc j).known)] := by rw [← hM]
  have hMk : ∀ k, M.doc k = N.doc k := fun k => by unfold LNet.doc; rw [hMd]
  have e4 : M.doE dlv = M.mailE dlv := by unfold LNet.doE dlv; rw [if_neg (by unfold LNet.editB; simp), if_neg (by simp), if_pos (by unfold LNet.mailB; simp)]
  have e5 : M.do_ dlv = M.mail dlv := by unfold LNet.do_ dlv; rw [if_neg (by unfold LNet.editB; simp), if_neg (by simp), if_pos (by unfold LNet.mailB; simp)]
  have hnm : ¬ M.noMail dlv.a := by unfold LNet.noMail dlv; rw [hMu]; simp
  have hat : M.mailAt dlv.a.toNat = ((j : Int), (N.doc i).parc (N.doc j).known) := by unfold LNet.mailAt dlv; rw [hMu]; rfl
  have e6 : M.mailE dlv = (N.doc j).openE ((N.doc i).parc (N.doc j).known) := by
    unfold LNet.mailE
    rw [if_neg hnm, if_neg (by simp [dlv]), if_neg (by simp [dlv]), hat]
    simp only [Int.toNat_natCast]
    rw [hMk]
  have e7 : M.mail dlv = ⟨N.docs.set j ((N.doc j).openR ((N.doc i).parc (N.doc j).known)), []⟩ := by
    unfold LNet.mail
    rw [if_neg hnm, if_neg (by simp [dlv]), if_neg (by simp [dlv]), hat]
    simp only [Int.toNat_natCast]
    rw [hMk, hMd, hMu]
    rfl
  have hfm := hf.mail_ dlv
  have hmem : ((j : Int), (N.doc i).parc (N.doc j).known) ∈ M.under := by rw [hMu]; simp
  obtain ⟨o1, o2, o3⟩ := hf.open_ hmem
  simp only [Int.toNat_natCast] at o1 o2 o3
  rw [hMk] at o1 o2 o3
  rw [e4, e5, e6]
  rw [e7] at hfm ⊢
  have hpj := h.part j hj
  obtain ⟨r1, r2, r3⟩ := lacks_runs h.univ (h.part _ hi) hpj
  have hfew := (h.part _ hi).ok.few
  have hl : (lacksR (N.doc i).ops (N.doc j).known).length ≤ (N.doc i).ops.length := List.length_filter_le _ _
  have hp : packErr (lacksR (N.doc i).ops (N.doc j).known) = 0 := by
    unfold packErr
    rw [if_neg (by omega)]
    exact opsErr_of (fun o ho => h.univ.good o (r2 o ho))
  have hup : unpackOf ((N.doc i).parc (N.doc j).known).data.toList = some (lacksR (N.doc i).ops (N.doc j).known) := by
    have e1 : ((N.doc i).parc (N.doc j).known).data.toList = packBytes (lacksR (N.doc i).ops (N.doc j).known) := by
      unfold LDoc.parc packRes
      rw [if_pos hp]
      simp [strOf]
    rw [e1]
    exact unpack_pack hp
  have e8 : (N.doc j).openE ((N.doc i).parc (N.doc j).known) = (N.doc j).doE (lacksR (N.doc i).ops (N.doc j).known) := by unfold LDoc.openE; rw [hup]
  have e9 : (N.doc j).openR ((N.doc i).parc (N.doc j).known) = (N.doc j).doR (lacksR (N.doc i).ops (N.doc j).known) := by unfold LDoc.openR; rw [hup]
  refine ⟨o1, rfl, by simp, hfm, fun k w => ?_, fun k hk => ?_, fun h0 w => ?_, lacksR (N.doc i).ops (N.doc j).known, e8, ?_, r2, r1⟩
  · rw [LNet.doc_set hj]
    split
    · rename_i hkj; subst hkj; exact cnt_mono o3 hpj.num o2.num w
    · exact Nat.le_refl _
  · rw [LNet.doc_set hj, if_neg hk]
  · rw [LNet.doc_set hj, if_pos rfl]
    rw [e8] at h0
    rw [e9]
    obtain ⟨_, _, _, t4, _⟩ := run_do h.univ _ _ (cnt (N.doc j)) hpj r2 r1 (fun k => Nat.le_refl _)
    have := t4 h0 w
    have := r3 w
    omega
  · rw [LNet.doc_set hj, if_pos rfl, e9]
end Fair
end Go.Proofs.YtkaccnegdmpofaaGreatDoor
/- When what is typed goes, and what may be wrong with it: plain. Conditions: none. -/
namespace Go.Proofs.YtkaccnegdmpofaaGreatDoor
open Go.RowKit
set_option linter.unusedVariables false
theorem typed_goes (who : Int) (right : ByteArray) (hw0 : 1 ≤ who) (hw1 : who ≤ 8) : ∀ (t : List UInt8) (left : ByteArray) (n : Int) (d : LDoc) (a b : List LLeaf), d.Ok → d.book = a ++ b → Gap a b left right → nOf d.known ⟨who, 0⟩ = n → 0 ≤ n → n + t.length ≤ 9999 → d.ops.length + t.length ≤ 400 → d.book.length + t.length ≤ 300 →
    t.any badC = false → TypedOk who right t left → d.doE (typedOps who right t left n) = 0
  | [], left, n, d, a, b => fun hk hb hg hn h0 h1 h2 h3 h4 ht => rfl
  | c :: t, left, n, d, a, b => fun hk hb hg hn h0 h1 h2 h3 h4 ht => by
    obtain ⟨t1, t2⟩ := ht
    have hgood := good_of t1
    rw [List.any_cons, Bool.or_eq_false_iff] at h4
    obtain ⟨h41, h42⟩ := h4
    have hlet : letterB (c.toNat : Int) = true := by unfold badC at h41; simpa using h41
    simp only [List.length_cons] at h1 h2 h3
    rw [typedOps]
    generalize hp : strOf (betweenRes left right who) = p at *
    have hn' : nOf d.known ⟨who, n + 1⟩ = n := (nOf_who _ rfl).trans hn
    have hdot : dotErr ⟨who, n + 1⟩ = 0 := by unfold dotErr; rw [if_pos]; simp only; omega
    have hop : opErr ⟨⟨who, n + 1⟩, 1, p, c.toNat, []⟩ = 0 := by
      unfold opErr
      rw [if_neg (by simp only; omega), if_neg (by simp), if_neg (by have := hgood.check; simp only; omega), if_neg (by rintro ⟨_, h⟩; simp only at h; rw [hlet] at h; cases h), if_neg (by simp), if_neg (by simp), if_neg (by simp)]
      rfl
    obtain ⟨g1, g2⟩ := hg.at_ hgood
    have hr : Rising (a ++ b) := by rw [← hb]; exact hk.book.rising
    have hno := gap_none hr g1 g2
    have hwr : writeErr d.book p c.toNat = 0 := write_zero hk.book hgood.check hlet (.inr (by omega)) (.inl (by rw [hb, no_old hno]))
    have hte : d.turnE ⟨⟨who, n + 1⟩, 1, p, c.toNat, []⟩ = 0 := by unfold LDoc.turnE; rw [if_pos rfl]; exact hwr
    have hh : hasRes d.known ⟨who, n + 1⟩ = false := by
      unfold hasRes
      rw [Bool.and_eq_false_iff]
      exact .inr (decide_eq_false (by rw [hn']; show ¬ (n + 1 ≤ n); omega))
    have ha : addErr d.known ⟨who, n + 1⟩ = 0 := by
      unfold addErr
      have hv := LDoc.vd_zero hk hop
      simp only at hv
      rw [if_neg (by omega), if_neg (by rw [hn']; simp only; omega), if_neg (by rw [hn']; simp only; omega)]
    obtain ⟨q1, q2, q3⟩ := LDoc.apply_good hk hop hh ha (by omega) hte
    have hturn : d.turn ⟨⟨who, n + 1⟩, 1, p, c.toNat, []⟩ = { d with book := a ++ ⟨p, c.toNat, false⟩ :: b } := by
      unfold LDoc.turn
      rw [if_pos rfl, if_pos hwr, write_upd, hb, no_old hno]
      rw [upd_gap hr g1 g2]
      rfl
    have hk2 := LDoc.apply_ok hk ⟨⟨who, n + 1⟩, 1, p, c.toNat, []⟩
    unfold LDoc.doE
    rw [if_neg (by omega)]
    rw [q3, hturn] at hk2 ⊢
    obtain ⟨a1, a2, a3⟩ := add_ok ha
    have hn2 : nOf (addRes d.known ⟨who, n + 1⟩) ⟨who, 0⟩ = n + 1 := by
      rw [nOf_who _ (show (⟨who, 0⟩ : LDot).who = (⟨who, n + 1⟩ : LDot).who from rfl), nOf_add a1 a2 a2, if_pos rfl]
    refine typed_goes who right hw0 hw1 t p (n + 1) _ (a ++ [⟨p, c.toNat, false⟩]) b hk2 (by simp) (hg.next hgood _ _) hn2 (by omega) (by omega) ?_ ?_ h42 t2
    · simp; omega
    · rw [hb] at h3; simp at h3 ⊢; omega
/-- Two between which one may be. -/
def Between (a b : ByteArray) : Prop := (a.size = 0 ∨ placeErr a = 0) ∧ (b.size = 0 ∨ placeErr b = 0) ∧ (a.size ≠ 0 → b.size ≠ 0 → lt a b = true)
theorem between_ready {a b : ByteArray} (h : Between a b) : readyErr a b = 0 := by
  obtain ⟨h1, h2, h3⟩ := h
  unfold readyErr
  rw [if_neg, if_neg, if_neg]
  · rintro ⟨x, y, z⟩
    have := h3 x y
    unfold lt at this
    rw [this] at z; cases z
  · rintro ⟨x, y⟩
    rcases h2 with h | h
    · exact x h
    · exact y h
  · rintro ⟨x, y⟩
    rcases h1 with h | h
    · exact x h
    · exact y h
theorem between_eight {a b : ByteArray} (h : Between a b) {who : Int} (hw0 : 1 ≤ who) (hw1 : who ≤ 8) : betweenErr a b who = 0 ∨ betweenErr a b who = 8 := by
  unfold betweenErr roomErr
  rw [if_neg (by omega), if_neg (by have := between_ready h; omega)]
  split
  · exact .inr rfl
  · exact .inl rfl
theorem typed_eight (right : ByteArray) : ∀ (t : List UInt8) (left : ByteArray) (m : LMk), 1 ≤ m.who → m.who ≤ 8 → Between left right → (LMk.typed right t left m).2 = 0 ∨ (LMk.typed right t left m).2 = 8
  | [], left, m => fun _ _ _ => .inl rfl
  | c :: t, left, m => fun h0 h1 hb => by
    unfold LMk.typed
    by_cases he : betweenErr left right m.who ≠ 0
    · rw [if_pos he]
      rcases between_eight hb h0 h1 with h | h
      · exact absurd h he
      · exact .inr h
    · rw [if_neg he]
      have hgood := good_of (show betweenErr left right m.who = 0 by omega)
      refine typed_eight right t _ _ h0 h1 ⟨.inr hgood.check, hb.2.1, fun _ hr => (good_lt hgood).2 hr⟩
theorem ins_between {l : List LLeaf} (hb : BookOk l) {off : Int} (h0 : 0 ≤ off) (h1 : off ≤ ((textOf l).size : Int)) : Between (leftOf l off) (rightOf l (idxOf l off)) := by
  obtain ⟨g1, g2, g3⟩ := ins_gap hb h0 h1
  have hl : (leftOf l off).size = 0 ∨ ∃ n, ∃ hn : n < l.length, leftOf l off = l[n].place ∧ idxOf l off = n + 1 := by
    by_cases hp : 0 < off
    · obtain ⟨o, rfl⟩ : ∃ o : Nat, off = (o : Int) + 1 := ⟨(off - 1).toNat, by omega⟩
      have hsz : (textOf l).size = (textL l).length := strOf_size _
      obtain ⟨n, hn, e1, e2, e3⟩ := nth_seen l 0 o (by omega)
      have en : (nthFrom 0 l ((o : Int) + 1 - 1)).toNat = n := by rw [show (o : Int) + 1 - 1 = o by omega, e1]; omega
      exact .inr ⟨n, hn, by unfold leftOf; rw [if_pos hp, en]; simp [List.getD, hn], by unfold idxOf; rw [if_pos hp, en]⟩
    · exact .inl (by unfold leftOf; rw [if_neg hp]; rfl)
  have hr : (rightOf l (idxOf l off)).size = 0 ∨ ∃ h : idxOf l off < l.length, rightOf l (idxOf l off) = l[idxOf l off].place := by
    by_cases hi : idxOf l off < l.length
    · exact .inr ⟨hi, by unfold rightOf; rw [if_pos hi]; simp [List.getD, hi]⟩
    · exact .inl (by unfold rightOf; rw [if_neg hi]; rfl)
  refine ⟨?_, ?_, fun x y => ?_⟩
  · rcases hl with h | ⟨n, hn, h, _⟩
    · exact .inl h
    · rw [h]; exact .inr (hb.leafs _ (List.getElem_mem hn)).place
  · rcases hr with h | ⟨hi, h⟩
    · exact .inl h
    · rw [h]; exact .inr (hb.leafs _ (List.getElem_mem hi)).place
  · rcases hl with h | ⟨n, hn, h, hin⟩
    · exact absurd h x
    · rcases hr with h' | ⟨hi, h'⟩
      · exact absurd h' y
      · rw [h, h']
        exact rising_lt hb.rising n _ hn hi (by omega)
namespace LDoc
/-- What may be wrong with an insert. -/
theorem insE_cases {d : LDoc} (hk : d.Ok) (who off : Int) (text : ByteArray) : whoE who ≠ 0 ∧ d.insE who off text = 1 ∨ whoE who = 0 ∧ insErr d.book off text ≠ 0 ∧ d.insE who off text = insErr d.book off text ∨
    whoE who = 0 ∧ insErr d.book off text = 0 ∧ (d.insE who off text = 0 ∨ d.insE who off text = 8) := by
  by_cases hw : whoE who = 0
  · by_cases hi : insErr d.book off text = 0
    · refine .inr (.inr ⟨hw, hi, ?_⟩)
      obtain ⟨i1, i2, i3, i4⟩ := insErr_zero hi
      obtain ⟨_, w0, w1⟩ := who_dot hw
      unfold insE LMk.ins
      rw [if_neg (by omega), if_neg (by omega)]
      exact typed_eight _ _ _ _ w0 w1 (ins_between hk.book i3 i4)
    · refine .inr (.inl ⟨hw, hi, ?_⟩)
      unfold insE LMk.ins
      rw [if_neg (by omega), if_pos hi]
  · exact .inl ⟨hw, if_pos hw⟩
/-- What is typed goes, where there is room. -/
theorem ins_goes {d : LDoc} (hk : d.Ok) {who off : Int} {text : ByteArray} (h : d.insE who off text = 0) (h1 : nOf d.known ⟨who, 0⟩ + text.size ≤ 9999) (h0 : 0 ≤ nOf d.known ⟨who, 0⟩) (h2 : d.ops.length + text.size ≤ 400) (h3 : d.book.length + text.size ≤ 300) : d.doE (d.insR who off text) = 0 := by
  obtain ⟨a1, a2, a3, a4⟩ := ins_ok h
  obtain ⟨i1, i2, i3, i4⟩ := insErr_zero a2
  obtain ⟨_, w0, w1⟩ := who_dot a1
  obtain ⟨g1, g2, g3⟩ := ins_gap hk.book i3 i4
  rw [a3]
  exact typed_goes who _ w0 w1 _ _ _ d _ _ hk (List.take_append_drop _ _).symm g3 rfl h0 (by rw [toList_len]; omega) (by rw [toList_len]; omega) (by rw [toList_len]; omega) i2 a4
end LDoc
end Go.Proofs.YtkaccnegdmpofaaGreatDoor
/- Nodes that type, each its own, and then send: plain. Conditions: none. -/
namespace Go.Proofs.YtkaccnegdmpofaaGreatDoor
open Go.RowKit
set_option linter.unusedVariables false
/-- A document in which letters stand that were typed, and no others. -/
structure Lets (d : LDoc) : Prop where
  what : ∀ x ∈ d.ops, x.what = 1
  place : ∀ x ∈ d.ops, ∀ y ∈ d.ops, x.place = y.place → x = y
  len : d.book.length = d.ops.length
  seen : ∀ x ∈ d.book, seenB x = true
theorem Lets.new : Lets LDoc.new := ⟨by simp [LDoc.new], by simp [LDoc.new], rfl, by simp [LDoc.new]⟩
theorem Lets.text {d : LDoc} (h : Lets d) : (textOf d.book).size = d.ops.length := by
  rw [← h.len]
  unfold textOf
  rw [strOf_size]
  unfold textL
  rw [List.length_map, List.filter_eq_self.2 h.seen]
theorem mem_bookPut {l : List LLeaf} {i : Nat} {x y : LLeaf} (h : y ∈ bookPut l i x) : y ∈ l ∨ y = x := by
  unfold bookPut at h
  rcases List.mem_append.1 h with h | h
  · exact .inl (List.mem_of_mem_take h)
  · rcases List.mem_cons.1 h with h | h
    · exact .inr h
    · exact .inl (List.mem_of_mem_drop h)
def sumTo (f : Nat → Nat) : Nat → Nat
  | 0 => 0
  | n + 1 => sumTo f n + f n
theorem sumTo_congr {f g : Nat → Nat} : ∀ n, (∀ a, a < n → f a = g a) → sumTo f n = sumTo g n
  | 0, _ => rfl
  | n + 1, h => by unfold sumTo; rw [sumTo_congr n (fun a ha => h a (by omega)), h n (by omega)]
theorem sumTo_le {f : Nat → Nat} {c : Nat} : ∀ n, (∀ a, a < n → f a ≤ c) → sumTo f n ≤ n * c
  | 0, _ => Nat.zero_le _
  | n + 1, h => by
    unfold sumTo
    have := sumTo_le n (fun a ha => h a (by omega))
    have := h n (by omega)
    rw [Nat.add_mul]; omega
theorem sumTo_zero : ∀ n, sumTo (fun _ => 0) n = 0
  | 0 => rfl
  | n + 1 => by unfold sumTo; rw [sumTo_zero n]
theorem sumTo_one (k : Nat) : ∀ n, sumTo (fun a => if a = k then 1 else 0) n = if k < n then 1 else 0
  | 0 => rfl
  | n + 1 => by
    unfold sumTo
    rw [sumTo_one k n]
    by_cases h1 : k < n
    · rw [if_pos h1, if_neg (by omega), if_pos (by omega)]
    · rw [if_neg h1]
      by_cases h2 : n = k
      · rw [if_pos h2, if_pos (by omega)]
      · rw [if_neg h2, if_neg (by omega)]
theorem sumTo_add (f g : Nat → Nat) : ∀ n, sumTo (fun a => f a + g a) n = sumTo f n + sumTo g n
  | 0 => rfl
  | n + 1 => by unfold sumTo; rw [sumTo_add f g n]; omega
theorem ofWho_sum (n : Nat) : ∀ (l : List LOp), (∀ o ∈ l, 1 ≤ o.dot.who ∧ o.dot.who ≤ (n : Int)) → sumTo (fun a => (ofWho ((a : Int) + 1) l).length) n = l.length
  | [], _ => by
    have : (fun a : Nat => (ofWho ((a : Int) + 1) []).length) = fun _ => 0 := by funext a; rfl
    rw [this, sumTo_zero]; rfl
  | o :: l, h => by
    have h0 := h o (by simp)
    have ih := ofWho_sum n l (fun x hx => h x (by simp [hx]))
    have e : (fun a : Nat => (ofWho ((a : Int) + 1) (o :: l)).length) = fun a => (if a = (o.dot.who - 1).toNat then 1 else 0) + (ofWho ((a : Int) + 1) l).length := by
      funext a
      by_cases ha : a = (o.dot.who - 1).toNat
      · rw [if_pos ha]
        have : ofWho ((a : Int) + 1) (o :: l) = o :: ofWho ((a : Int) + 1) l := by
          unfold ofWho
          rw [List.filter_cons_of_pos (by simp; omega)]
        rw [this, List.length_cons]; omega
      · rw [if_neg ha]
        have : ofWho ((a : Int) + 1) (o :: l) = ofWho ((a : Int) + 1) l := by
          unfold ofWho
          rw [List.filter_cons_of_neg (by simp; omega)]
        rw [this]; omega
    rw [e, sumTo_add, sumTo_one, if_pos (by omega), ih, List.length_cons]; omega
theorem part_sum {U : List LOp} {n : Nat} {d : LDoc} (hU : Univ U n) (hd : Part U d) : sumTo (fun a => cnt d ((a : Int) + 1)) n = d.ops.length :=
  ofWho_sum n d.ops (fun o ho => by
    have h1 := hU.who o (hd.sub o ho)
    have h2 := (op_ok (hU.good o (hd.sub o ho))).1
    unfold dotErr at h2
    split at h2
    · omega
    · omega)
/-- A letter comes. -/
theorem apply_lets {U : List LOp} {n : Nat} {d : LDoc} {o : LOp} (hU : Univ U n) (hw : ∀ x ∈ U, x.what = 1) (hp : ∀ x ∈ U, ∀ y ∈ U, x.place = y.place → x = y) (hd : Part U d) (hl : Lets d) (ho : o ∈ U) (hn : o.dot.n ≤ (cnt d o.dot.who : Int) + 1) (hc : d.ops.length < 300) :
    d.applyE o = 0 ∧ Lets (d.apply o) := by
  obtain ⟨a1, a2, a3, a4, a5⟩ := apply_part hU hd ho hn
  have hop := hU.good o ho
  obtain ⟨p1, p2, p3, p4, _⟩ := op_ok hop
  have h6 := hd.known hop
  have hv : vdErr d.known o.dot = 0 := by unfold vdErr; rw [if_neg (fun h => h hd.ok.known)]; exact p1
  by_cases hh : hasRes d.known o.dot = true
  · have hE : d.applyE o = 0 := by unfold LDoc.applyE; rw [if_neg (by omega), if_neg (by omega), if_pos hh]
    have hB : d.applyB o = false := by unfold LDoc.applyB; rw [hh, hop]; simp
    have e : d.apply o = d := by unfold LDoc.apply; rw [hB]; simp
    rw [e]
    exact ⟨hE, hl⟩
  have hh : hasRes d.known o.dot = false := by simpa using hh
  have hlt : nOf d.known o.dot < o.dot.n := by
    unfold hasRes at hh
    rw [hv] at hh
    simp at hh
    omega
  have hfresh : ∀ x ∈ d.ops, x.place ≠ o.place := fun x hx hxo => by
    have := hp x (hd.sub x hx) o ho hxo
    subst this
    have := (hd.ok.ops x hx).2
    rw [hh] at this; cases this
  have hat : hasAt d.book o.place = false := by
    cases hb : hasAt d.book o.place
    · rfl
    · obtain ⟨x, hx, _, hxo⟩ := (hd.says.here o.place).1 hb
      exact absurd hxo (hfresh x hx)
  have hw1 := hw o ho
  have hwe : writeErr d.book o.place o.letter = 0 := by
    unfold writeErr
    have hr : bookReady d.book o.place = 0 := by unfold bookReady; rw [if_neg (by have := bookErr_zero hd.ok.book; omega)]; exact p3
    rw [if_neg (by omega), if_neg (by rw [p4 hw1]; decide), if_pos hat]
    unfold putErr
    rw [if_neg (by have := hl.len; omega)]
  have hE : d.applyE o = 0 := by
    unfold LDoc.applyE
    rw [if_neg (by omega), if_neg (by omega), if_neg (by rw [hh]; simp)]
    have ha : addErr d.known o.dot = 0 := by
      unfold addErr
      rw [if_neg (by omega), if_neg (by omega), if_neg (by omega)]
    rw [if_neg (by omega), if_neg (by omega)]
    unfold LDoc.turnE
    rw [if_pos hw1]; exact hwe
  obtain ⟨q1, q2, q3, q4, q5⟩ := LDoc.apply_new hd.ok hE hlt
  have eo : (d.apply o).ops = d.ops ++ [o] := by rw [q5]
  have eb : (d.apply o).book = bookPut d.book (ahead d.book o.place) ⟨o.place, o.letter, false⟩ := by
    rw [q5]
    show (d.turn o).book = _
    unfold LDoc.turn
    rw [if_pos hw1, if_pos hwe]
    unfold writeRes
    rw [if_neg (by rw [hat]; simp)]
  have hal : ahead d.book o.place ≤ d.book.length := ahead_le _ _
  refine ⟨hE, ⟨fun x hx => ?_, fun x hx y hy hxy => ?_, ?_, fun x hx => ?_⟩⟩
  · exact hw x (a2.sub x hx)
  · exact hp x (a2.sub x hx) y (a2.sub y hy) hxy
  · rw [eo, eb, bookPut_len _ _ _ hal, List.length_append, hl.len]; rfl
  · rw [eb] at hx
    rcases mem_bookPut hx with hx | rfl
    · exact hl.seen x hx
    · have := p4 hw1
      unfold letterB at this
      simp at this
      unfold seenB
      simp
      omega
theorem run_lets {U : List LOp} {n : Nat} (hU : Univ U n) (hw : ∀ x ∈ U, x.what = 1) (hp : ∀ x ∈ U, ∀ y ∈ U, x.place = y.place → x = y) (hc : ∀ d, Part U d → d.ops.length < 300) : ∀ (l : List LOp) (d : LDoc) (s : Int → Nat), Part U d → Lets d → (∀ o ∈ l, o ∈ U) → Runs l s → (∀ i, s i ≤ cnt d i) →
    d.doE l = 0 ∧ Lets (d.doR l)
  | [], d, s => fun hd hl _ _ _ => ⟨rfl, hl⟩
  | o :: t, d, s => fun hd hl hlU hr hs => by
    have h0 := hr o.dot.who 0 o (by simp [ofWho])
    have hn : o.dot.n ≤ (cnt d o.dot.who : Int) + 1 := by have := hs o.dot.who; omega
    obtain ⟨a1, a2, a3, a4, a5⟩ := apply_part hU hd (hlU o (by simp)) hn
    obtain ⟨b1, b2⟩ := apply_lets hU hw hp hd hl (hlU o (by simp)) hn (hc d hd)
    unfold LDoc.doE LDoc.doR
    rw [if_neg (by omega), if_neg (by omega)]
    refine run_lets hU hw hp hc t (d.apply o) (fun i => if i = o.dot.who then s i + 1 else s i) a2 b2 (fun x hx => hlU x (by simp [hx])) (fun i k x hx => ?_) (fun i => ?_)
    · by_cases hi : i = o.dot.who
      · have e : ofWho i (o :: t) = o :: ofWho i t := by simp [ofWho, hi]
        have := hr i (k + 1) x (by rw [e]; simpa using hx)
        simp only [if_pos hi]
        push_cast at this ⊢
        omega
      · have e : ofWho i (o :: t) = ofWho i t := by
          unfold ofWho
          rw [List.filter_cons_of_neg (by simp; exact fun h => hi h.symm)]
        have := hr i k x (by rw [e]; exact hx)
        simp only [if_neg hi]
        omega
    · by_cases hi : i = o.dot.who
      · simp only [if_pos hi]; subst hi
        have := a4 b1
        omega
      · simp only [if_neg hi]; have := a3 i; have := hs i; omega
/-- A letter is typed at the end. -/
theorem type_lets {U : List LOp} {d : LDoc} (hd : Part U d) (hl : Lets d) {i : Nat} (hi : i < 4) (c : UInt8) (hk : d.ops.length < 200) (hcn : cnt d ((i : Int) + 1) = d.ops.length) :
    d.editE ⟨1, i, (d.ops.length : Nat), c.toNat⟩ = 1 ∨ d.editE ⟨1, i, (d.ops.length : Nat), c.toNat⟩ = 8 ∨ d.editE ⟨1, i, (d.ops.length : Nat), c.toNat⟩ = 0 ∧ Lets (d.editR ⟨1, i, (d.ops.length : Nat), c.toNat⟩) ∧ (d.editR ⟨1, i, (d.ops.length : Nat), c.toNat⟩).ops.length = d.ops.length + 1 ∧ cnt (d.editR ⟨1, i, (d.ops.length : Nat), c.toNat⟩) ((i : Int) + 1) = d.ops.length + 1 := by
  have hevE : d.evE ⟨1, i, (d.ops.length : Nat), c.toNat⟩ = if letterB (c.toNat : Int) = false then 1 else d.insE ((i : Int) + 1) (d.ops.length : Nat) (oneT c.toNat) := by unfold LDoc.evE; rw [if_pos rfl]
  have hevL : d.evL ⟨1, i, (d.ops.length : Nat), c.toNat⟩ = d.insR ((i : Int) + 1) (d.ops.length : Nat) (oneT c.toNat) := by unfold LDoc.evL; rw [if_pos rfl]
  unfold LDoc.editE LDoc.editR
  rw [hevL, hevE]
  by_cases hc : letterB (c.toNat : Int) = false
  · rw [if_pos hc]; exact .inl rfl
  rw [if_neg hc]
  have hwho : LDoc.whoE ((i : Int) + 1) = 0 := by unfold LDoc.whoE; rw [if_neg (by omega)]
  have hone : oneT (c.toNat : Int) = strOf [c] := by unfold oneT; simp [strOf]
  have hones : (oneT (c.toNat : Int)).size = 1 := by rw [hone]; rfl
  rcases LDoc.insE_cases hd.ok ((i : Int) + 1) (d.ops.length : Nat) (oneT c.toNat) with ⟨h, _⟩ | ⟨_, h, _⟩ | ⟨_, _, h | h⟩
  · exact absurd hwho h
  · exfalso
    apply h
    unfold insErr
    rw [if_neg (by omega), if_neg, if_neg]
    · rw [hl.text]; omega
    · rw [oneT_list]
      simp only [List.any_cons, List.any_nil, Bool.or_false, badC]
      simp
      simpa using hc
  · right; right
    have hdo := LDoc.ins_goes hd.ok h (by rw [LDoc.maker_n hd hwho, hcn, hones]; omega) (by rw [LDoc.maker_n hd hwho]; omega) (by rw [hones]; omega) (by rw [hones, hl.len]; omega)
    rw [h]
    simp only [ne_eq, not_true_eq_false, if_false]
    obtain ⟨a, b, e1, e2, e3, e4, e5, e6, e7, e8, e9⟩ := LDoc.ins_does hd.ok h hdo
    obtain ⟨n1, _⟩ := LDoc.ins_none hd.ok h hdo
    obtain ⟨y1, y2⟩ := LDoc.ins_each h
    obtain ⟨o, ho⟩ : ∃ o, d.insR ((i : Int) + 1) (d.ops.length : Nat) (oneT c.toNat) = [o] := by
      have := congrArg List.length y2
      rw [List.length_map, List.length_map, oneT_list] at this
      simp only [List.length_cons, List.length_nil] at this
      match hm : d.insR ((i : Int) + 1) (d.ops.length : Nat) (oneT c.toNat), this with
      | [o], _ => exact ⟨o, rfl⟩
    rw [ho] at hdo e3 e4 e7 n1 y1 y2 ⊢
    have hno : ∀ x ∈ d.ops, x.place ≠ o.place := fun x hx hxo => by
      have := (hd.says.here o.place).2 ⟨x, hx, .inl (hl.what x hx), hxo⟩
      rw [n1 o (by simp)] at this; cases this
    refine ⟨hdo, ⟨fun x hx => ?_, fun x hx y hy hxy => ?_, ?_, fun x hx => ?_⟩, ?_, ?_⟩
    · rw [e7] at hx
      rcases List.mem_append.1 hx with hx | hx
      · exact hl.what x hx
      · exact (y1 x hx).2.1
    · rw [e7] at hx hy
      rcases List.mem_append.1 hx with gx | gx <;> rcases List.mem_append.1 hy with gy | gy
      · exact hl.place x gx y gy hxy
      · simp at gy; subst gy; exact absurd hxy (hno x gx)
      · simp at gx; subst gx; exact absurd hxy.symm (hno y gy)
      · simp at gx gy; subst gx; subst gy; rfl
    · have h1 := hl.len
      rw [e1] at h1
      rw [e3, e7]
      simp only [List.length_append, List.length_map, List.length_cons, List.length_nil] at h1 ⊢
      omega
    · rw [e3] at hx
      have h1 := hl.seen
      rw [e1] at h1
      rcases List.mem_append.1 hx with hx | hx
      · rcases List.mem_append.1 hx with hx | hx
        · exact h1 x (by simp [hx])
        · simp at hx
          subst hx
          have := congrArg List.length e4
          unfold textL at this
          rw [List.length_map, oneT_list] at this
          simp only [List.map_cons, List.map_nil, List.length_cons, List.length_nil] at this
          cases hsb : seenB (leafOf o)
          · rw [List.filter_cons_of_neg (by rw [hsb]; simp)] at this; simp at this
          · rfl
      · exact h1 x (by simp [hx])
    · rw [e7]; simp
    · unfold cnt at hcn ⊢
      rw [e7, ofWho_add, List.length_append, hcn]
      have : ofWho ((i : Int) + 1) [o] = [o] := by simp [ofWho, (y1 o (by simp)).1]
      rw [this]; rfl
  · right; left
    rw [h]; simp
end Go.Proofs.YtkaccnegdmpofaaGreatDoor
/- Nodes that have typed send each to each: plain. Conditions: none. -/
namespace Go.Proofs.YtkaccnegdmpofaaGreatDoor
open Go.RowKit
set_option linter.unusedVariables false
/-- Each node has typed so many letters; nothing is under way. -/
structure TNet (U : List LOp) (N : LNet) (T : Nat → Nat) : Prop where
  fair : Fair U N
  under : N.under = []
  lets : ∀ i, i < N.docs.length → Lets (N.doc i)
  many : ∀ i, i < N.docs.length → cnt (N.doc i) ((i : Int) + 1) = T i
  few : ∀ i, T i ≤ 20
namespace TNet
variable {U : List LOp} {N : LNet} {T : Nat → Nat}
theorem own_of (h : TNet U N T) {x : LOp} (hx : x ∈ U) : ∃ a, a < N.docs.length ∧ x.dot.who = (a : Int) + 1 ∧ x ∈ (N.doc a).ops := by
  have h1 := h.fair.univ.who x hx
  have h2 := (op_ok (h.fair.univ.good x hx)).1
  unfold dotErr at h2
  split at h2
  · have h3 : (x.dot.who - 1).toNat < N.docs.length := by omega
    exact ⟨_, h3, by omega, h.fair.own _ h3 x hx (by omega)⟩
  · omega
theorem what (h : TNet U N T) : ∀ x ∈ U, x.what = 1 := fun x hx => by
  obtain ⟨a, ha, _, hm⟩ := h.own_of hx
  exact (h.lets a ha).what x hm
theorem place (h : TNet U N T) : ∀ x ∈ U, ∀ y ∈ U, x.place = y.place → x = y := fun x hx y hy hxy => by
  obtain ⟨a, ha, wa, ma⟩ := h.own_of hx
  obtain ⟨b, hb, wb, mb⟩ := h.own_of hy
  have h1 := h.fair.univ.write x hx (h.what x hx)
  have h2 := h.fair.univ.write y hy (h.what y hy)
  rw [hxy] at h1
  have : a = b := by omega
  subst this
  exact (h.lets a ha).place x ma y mb hxy
theorem bound (h : TNet U N T) : ∀ d, Part U d → d.ops.length ≤ 80 := fun d hd => by
  have h1 := part_sum h.fair.univ hd
  have h2 := sumTo_le (c := 20) (f := fun a => cnt d ((a : Int) + 1)) N.docs.length (fun a ha => by
    have := h.fair.own_most ha hd
    have := h.many a ha
    have := h.few a
    show cnt d ((a : Int) + 1) ≤ 20
    omega)
  have := h.fair.ok.some
  omega
theorem mesh (h : TNet U N T) {i j : Nat} (hi : i < N.docs.length) (hj : j < N.docs.length) (hij : i ≠ j) :
    N.doE (sndE i j) = 0 ∧ (N.do_ (sndE i j)).doE dlv = 0 ∧ TNet U ((N.do_ (sndE i j)).do_ dlv) T ∧ ((N.do_ (sndE i j)).do_ dlv).docs.length = N.docs.length ∧
      (∀ k w, cnt (N.doc k) w ≤ cnt (((N.do_ (sndE i j)).do_ dlv).doc k) w) ∧ (∀ w, cnt (N.doc i) w ≤ cnt (((N.do_ (sndE i j)).do_ dlv).doc j) w) := by
  obtain ⟨m1, m2, m3, m4, m5, m6, m7, m8, L, l1, l2, l3, l4⟩ := h.fair.mesh h.under hi hj hij
  obtain ⟨r1, r2⟩ := run_lets h.fair.univ h.what h.place (fun d hd => by have := h.bound d hd; omega) L (N.doc j) (cnt (N.doc j)) (h.fair.part j hj) (h.lets j hj) l3 l4 (fun k => Nat.le_refl _)
  have h0 : (N.do_ (sndE i j)).doE dlv = 0 := by rw [l1]; exact r1
  refine ⟨m1, h0, ⟨m5, m3, fun k hk => ?_, fun k hk => ?_, h.few⟩, m4, m6, m8 h0⟩
  · rw [m4] at hk
    by_cases hkj : k = j
    · subst hkj; rw [l2]; exact r2
    · rw [m7 k hkj]; exact h.lets k hk
  · have hk2 := hk
    rw [m4] at hk
    have a1 := m6 k ((k : Int) + 1)
    have a2 := h.fair.own_most hk (m5.part k hk2)
    have a3 := h.many k hk
    omega
end TNet
/-- What has come already, of what each sends to each: all of the nodes before i, and of i to those before j. -/
def Came (N : LNet) (i j : Nat) : Prop := ∀ a b, a < N.docs.length → b < N.docs.length → (a < i ∨ a = i ∧ b < j) → cnt (N.doc b) ((a : Int) + 1) = cnt (N.doc a) ((a : Int) + 1)
theorem Came.start (N : LNet) : Came N 0 0 := fun a b _ _ h => by omega
theorem Came.row {N : LNet} {i : Nat} (h : Came N i N.docs.length) : Came N (i + 1) 0 := fun a b ha hb hh => h a b ha hb (by omega)
theorem Came.same {N : LNet} {i : Nat} (h : Came N i i) : Came N i (i + 1) := fun a b ha hb hh => by
  by_cases hab : a = i ∧ b = i
  · obtain ⟨rfl, rfl⟩ := hab; rfl
  · exact h a b ha hb (by omega)
/-- One more has come. -/
theorem Came.step {U : List LOp} {N M : LNet} {i j : Nat} (h : Came N i j) (hf : Fair U N) (hm : Fair U M) (hl : M.docs.length = N.docs.length) (hi : i < N.docs.length) (h1 : ∀ k w, cnt (N.doc k) w ≤ cnt (M.doc k) w) (h2 : ∀ w, cnt (N.doc i) w ≤ cnt (M.doc j) w) : Came M i (j + 1) := fun a b ha hb hh => by
  rw [hl] at ha hb
  have e1 := h1 a ((a : Int) + 1)
  have e2 := hf.own_most ha (hm.part a (by omega))
  have e3 := hm.cnt_own (a := a) (b := b) (by omega) (by omega)
  by_cases hab : a = i ∧ b = j
  · obtain ⟨rfl, rfl⟩ := hab
    have := h2 ((a : Int) + 1)
    omega
  · have := h a b ha hb (by omega)
    have := h1 b ((a : Int) + 1)
    omega
theorem TNet.fin {U : List LOp} {N : LNet} {T : Nat → Nat} (h : TNet U N T) (hc : Came N N.docs.length 0) : N.sameB = true ∧ (textOf (N.doc 0).book).size = sumTo T N.docs.length := by
  have hall : ∀ a b, a < N.docs.length → b < N.docs.length → cnt (N.doc b) ((a : Int) + 1) = cnt (N.doc a) ((a : Int) + 1) := fun a b ha hb => hc a b ha hb (.inl ha)
  refine ⟨h.fair.sameB hall, ?_⟩
  have h1 := h.fair.ok.some
  rw [(h.lets 0 (by omega)).text, ← part_sum h.fair.univ (h.fair.part 0 (by omega))]
  exact sumTo_congr _ fun a ha => by rw [hall a 0 ha (by omega), h.many a ha]
/-- Nodes that are typing: so many letters each. -/
structure Typing (U : List LOp) (N : LNet) (n : Nat) (T : Nat → Nat) : Prop where
  fair : Fair U N
  under : N.under = []
  len : N.docs.length = n
  lets : ∀ i, i < n → Lets (N.doc i)
  many : ∀ i, i < n → cnt (N.doc i) ((i : Int) + 1) = T i
  ops : ∀ i, i < n → (N.doc i).ops.length = T i
namespace Typing
variable {U : List LOp} {N : LNet} {n : Nat} {T : Nat → Nat}
theorem new {n : Nat} (h1 : 1 ≤ n) (h4 : n ≤ 4) : Typing [] (LNet.new n) n (fun _ => 0) :=
  ⟨Fair.new h1 h4, rfl, by simp [LNet.new], fun i _ => by rw [LNet.doc_new]; exact Lets.new, fun i _ => by rw [LNet.doc_new]; rfl, fun i _ => by rw [LNet.doc_new]; rfl⟩
theorem type (h : Typing U N n T) {i : Nat} (hi : i < n) (ht : T i < 20) (c : UInt8) :
    N.doE ⟨1, i, (T i : Nat), c.toNat⟩ = 1 ∨ N.doE ⟨1, i, (T i : Nat), c.toNat⟩ = 8 ∨ N.doE ⟨1, i, (T i : Nat), c.toNat⟩ = 0 ∧ ∃ V, Typing V (N.do_ ⟨1, i, (T i : Nat), c.toNat⟩) n (fun a => if a = i then T i + 1 else T a) := by
  have hn4 := h.fair.ok.some
  have hl := h.len
  have hik : i < N.docs.length := by omega
  have e1 : ∀ e : LEv, e.what = 1 → e.a = (i : Int) → N.doE e = (N.doc i).editE e ∧ N.do_ e = { N with docs := N.docs.set i ((N.doc i).editR e) } := fun e hw ha => by
    have hnb : N.nodeB e.a = true := LNet.nodeB_iff.2 (by omega)
    constructor
    · unfold LNet.doE LNet.editE
      rw [if_pos (show LNet.editB e from .inl hw), if_neg (by rw [hnb]; simp), ha]
      simp
    · unfold LNet.do_ LNet.edit
      rw [if_pos (show LNet.editB e from .inl hw), if_neg (by rw [hnb]; simp), ha]
      simp
  obtain ⟨E1, E2⟩ := e1 ⟨1, i, (T i : Nat), c.toNat⟩ rfl rfl
  have ho := h.ops i hi
  have hlt := type_lets (h.fair.part i hik) (h.lets i hi) (show i < 4 by omega) c (by omega) (by rw [h.many i hi, ho])
  rw [ho] at hlt
  rw [E1]
  rcases hlt with h1 | h1 | ⟨h1, h2, h3, h4⟩
  · exact .inl h1
  · exact .inr (.inl h1)
  · refine .inr (.inr ⟨h1, ?_⟩)
    obtain ⟨V, hV, _⟩ := h.fair.do_ ⟨1, i, (T i : Nat), c.toNat⟩
    refine ⟨V, hV, ?_, ?_, ?_, ?_, ?_⟩
    · rw [E2]; exact h.under
    · rw [E2]; simp only [List.length_set]; exact hl
    · intro k hk
      rw [E2, LNet.doc_set hik]
      split
      · exact h2
      · exact h.lets k hk
    · intro k hk
      rw [E2, LNet.doc_set hik]
      split
      · rename_i hki; subst hki; exact h4
      · exact h.many k hk
    · intro k hk
      rw [E2, LNet.doc_set hik]
      split
      · exact h3
      · exact h.ops k hk
theorem net (h : Typing U N n T) (hf : ∀ i, T i ≤ 20) : TNet U N T :=
  ⟨h.fair, h.under, fun i hi => h.lets i (by rw [h.len] at hi; exact hi), fun i hi => h.many i (by rw [h.len] at hi; exact hi), hf⟩
end Typing
end Go.Proofs.YtkaccnegdmpofaaGreatDoor
/- All meet: plain. Conditions: none. -/
namespace Go.Proofs.YtkaccnegdmpofaaGreatDoor
open Go.RowKit
set_option linter.unusedVariables false
/-- What has come stays. -/
theorem Came.keep {U : List LOp} {N M : LNet} {i j : Nat} (h : Came N i j) (hf : Fair U N) (hm : Fair U M) (hl : M.docs.length = N.docs.length) (h1 : ∀ k w, cnt (N.doc k) w ≤ cnt (M.doc k) w) : Came M i j := fun a b ha hb hh => by
  rw [hl] at ha hb
  have e1 := h1 a ((a : Int) + 1)
  have e2 := hf.own_most ha (hm.part a (by omega))
  have e3 := hm.cnt_own (a := a) (b := b) (by omega) (by omega)
  have := h a b ha hb hh
  have := h1 b ((a : Int) + 1)
  omega
theorem Fair.sameC {U : List LOp} {N : LNet} (h : Fair U N) (hc : Came N N.docs.length 0) : N.sameB = true := h.sameB fun a b ha hb => hc a b ha hb (.inl ha)
theorem LNet.edit_len (N : LNet) (e : LEv) : (N.edit e).docs.length = N.docs.length := by
  unfold LNet.edit
  split
  · rfl
  · simp
theorem LNet.send_len (N : LNet) (i j : Int) : (N.send i j).docs.length = N.docs.length := by
  unfold LNet.send
  split <;> rfl
theorem LNet.mail_len (N : LNet) (e : LEv) : (N.mail e).docs.length = N.docs.length := by
  unfold LNet.mail
  split
  · rfl
  split
  · split <;> rfl
  split
  · rfl
  · simp
theorem LNet.do_len (N : LNet) (e : LEv) : (N.do_ e).docs.length = N.docs.length := by
  unfold LNet.do_
  split
  · exact N.edit_len e
  split
  · exact N.send_len _ _
  split
  · exact N.mail_len e
  · rfl
/-- The first parcel comes. -/
theorem Fair.first {U : List LOp} {N : LNet} (h : Fair U N) (hu : 0 < N.under.length) : (N.doE dlv = 0 ∨ N.doE dlv = 4) ∧ Fair U (N.do_ dlv) ∧ (N.do_ dlv).under.length = N.under.length - 1 ∧ (N.do_ dlv).docs.length = N.docs.length := by
  have e4 : N.doE dlv = N.mailE dlv := by unfold LNet.doE dlv; rw [if_neg (by unfold LNet.editB; simp), if_neg (by simp), if_pos (by unfold LNet.mailB; simp)]
  have e5 : N.do_ dlv = N.mail dlv := by unfold LNet.do_ dlv; rw [if_neg (by unfold LNet.editB; simp), if_neg (by simp), if_pos (by unfold LNet.mailB; simp)]
  have hnm : ¬ N.noMail dlv.a := by unfold LNet.noMail dlv; simp only; omega
  obtain ⟨hi, h1, h2⟩ := LNet.mail_get hnm
  have hmem : N.mailAt dlv.a.toNat ∈ N.under := by rw [h1]; exact List.getElem_mem hi
  have e6 : N.mailE dlv = (N.doc (N.mailAt dlv.a.toNat).1.toNat).openE (N.mailAt dlv.a.toNat).2 := by
    unfold LNet.mailE
    rw [if_neg hnm, if_neg (by simp [dlv]), if_neg (by simp [dlv])]
  refine ⟨?_, ?_, ?_, ?_⟩
  · rw [e4, e6]; exact (h.open_ hmem).1
  · rw [e5]; exact h.mail_ dlv
  · rw [e5]
    unfold LNet.mail
    rw [if_neg hnm, if_neg (by simp [dlv]), if_neg (by simp [dlv])]
    simp only
    rw [List.length_eraseIdx_of_lt hi]
  · rw [e5, LNet.mail_len]
/-- The net of the fact: two nodes, one letter. -/
def factE : LEv := ⟨1, 0, 0, 104⟩
def factN : LNet := (LNet.new 2).do_ factE
theorem fact_0 : (LNet.new 2).doE factE = 0 := by decide +kernel
theorem fact_typing : ∃ V, Typing V factN 2 (fun a => if a = 0 then 1 else 0) := by
  have h := (Typing.new (n := 2) (by decide) (by decide)).type (i := 0) (by decide) (by decide) 104
  have e : (⟨1, (0 : Nat), (0 : Nat), ((104 : UInt8).toNat : Nat)⟩ : LEv) = factE := rfl
  rw [e] at h
  rcases h with h | h | ⟨_, V, hV⟩
  · rw [fact_0] at h; cases h
  · rw [fact_0] at h; cases h
  · exact ⟨V, hV⟩
theorem fact_1 : factN.sameB = false := by
  obtain ⟨V, h⟩ := fact_typing
  cases hs : factN.sameB
  · rfl
  · exfalso
    unfold LNet.sameB at hs
    rw [List.all_eq_true] at hs
    have h1 : 1 < factN.docs.length := by rw [h.len]; decide
    have := hs _ (List.getElem_mem h1)
    rw [← LNet.doc_get h1] at this
    simp only [decide_eq_true_eq] at this
    have e1 := congrArg List.length this.1
    rw [(h.lets 1 (by decide)).len, (h.lets 0 (by decide)).len, h.ops 1 (by decide), h.ops 0 (by decide)] at e1
    simp at e1
theorem fact_2 : factN.doE (sndE 0 1) = 0 ∧ (factN.do_ (sndE 0 1)).doE dlv = 0 ∧ ((factN.do_ (sndE 0 1)).do_ dlv).sameB = true := by
  obtain ⟨V, h⟩ := fact_typing
  have hn := h.net (fun i => by split <;> omega)
  have hl := h.len
  obtain ⟨m1, m2, m3, m4, m5, m6⟩ := hn.mesh (i := 0) (j := 1) (by omega) (by omega) (by decide)
  refine ⟨m1, m2, m3.fair.sameB fun a b ha hb => ?_⟩
  rw [m4, hl] at ha hb
  have hz := m3.many a (by omega)
  have h1 := m3.fair.cnt_own (a := a) (b := b) (by omega) (by omega)
  rcases (show a = 0 ∨ a = 1 by omega) with rfl | rfl
  · rcases (show b = 0 ∨ b = 1 by omega) with rfl | rfl
    · rfl
    · have h2 := m6 ((0 : Nat) + 1 : Int)
      have h3 := hn.many 0 (by omega)
      simp only [if_true] at hz h3
      simp only [Int.natCast_zero] at *
      omega
  · simp only [if_neg (show ¬ (1 : Nat) = 0 by decide)] at hz
    omega
end Go.Proofs.YtkaccnegdmpofaaGreatDoor
/- (*net.Net).Same at any net, walked. Conditions: the documents are right. -/
namespace Go.Proofs.YtkaccnegdmpofaaGreatDoor
open Go.RowKit
set_option linter.unusedVariables false
set_option maxRecDepth 100000 in
set_option maxHeartbeats 8000000 in
theorem nsame_fn_f (w : World) (B1 B2 : Nat) (S1 S2 : List Nat) (p q f : Nat) (s1 s2 : LDoc) (D1 D2 : DLay) (h1 : DocIs w B1 S1 p s1 D1) (h2 : DocIs w B2 S2 q s2 D2) (ok1 : s1.Ok) (ok2 : s2.Ok) (hf : w.cell? ⟨f, 0, none⟩ = some (.pointer (some ⟨q, 0, none⟩))) (hfl : f < w.heap.size) (hbk : s1.book ≠ s2.book) :
    Calls Tryz.prog 75 #[.pointer (some ⟨p, 0, none⟩), .pointer (some ⟨f, 0, none⟩)] w (CheckPost w (.bool (!sameD s1 s2))) := by
  have HF : Hid (∀ W, Below w.heap.size w W → W.cell? ⟨f, 0, none⟩ = some (.pointer (some ⟨q, 0, none⟩))) := fun W hW => (hW.cell (p := ⟨f, 0, none⟩) hfl).trans hf
  have HP1 := Lib.hid (fun W (hW : Below w.heap.size w W) => book_doc W B1 S1 p s1 D1 (h1.below hW) ok1)
  have HQ1 := Lib.hid (fun W (hW : Below w.heap.size w W) => book_doc W B2 S2 q s2 D2 (h2.below hW) ok2)
  have HP2 := Lib.hid (fun W (hW : Below w.heap.size w W) => marks_doc W B1 S1 p s1 D1 (h1.below hW) ok1)
  have HQ2 := Lib.hid (fun W (hW : Below w.heap.size w W) => marks_doc W B2 S2 q s2 D2 (h2.below hW) ok2)
  unfold RowPost at HP1 HQ1 HP2 HQ2
  have n1 := ok1.book.few
  have n2 := ok2.book.few
  have n3 := ok1.marks.few
  have n4 := ok2.marks.few
  have HBc : Hid (Below w.heap.size w w) := Below.refl _ _
  have HEL := Lib.hid (fun (W : World) (A G : Option Addr) (ca cg : Nat) h1 h2 => EqLeafs.eqv W A G ca cg s1.book s2.book h1 h2 (by omega) (by omega))
  have HEM := Lib.hid (fun (W : World) (A G : Option Addr) (ca cg : Nat) h1 h2 => EqMarks.eqv W A G ca cg s1.marks s2.marks h1 h2 (by omega) (by omega))
  unfold SamePost at HEL HEM
  have HRES : Hid (sameD s1 s2 = (decide (s1.book = s2.book) && decide (s1.marks = s2.marks))) := rfl
  rw [HRES.out]
  clear h1 h2 ok1 ok2 HRES n1 n2 n3 n4 hfl
  generalize s1.book = l1 at *
  generalize s2.book = l2 at *
  generalize s1.marks = m1 at *
  generalize s2.marks = m2 at *
  obtain ⟨u, hu⟩ : ∃ u, u = decide (l1 = l2) := ⟨_, rfl⟩
  have huv : false = u := by rw [hu, decide_eq_false hbk]
  clear hbk
  obtain ⟨v, hv⟩ : ∃ v, v = decide (m1 = m2) := ⟨_, rfl⟩
  rw [← hu, ← hv]
  have HEL2 := Lib.hid HEL.out
  have HEM2 := Lib.hid HEM.out
  rw [← hu] at HEL2
  rw [← hv] at HEM2
  clear hu hv HEL HEM
  go_enter Tryz.func75, Tryz.ntmps75
  obtain rfl := huv
  go_wp2_with fail
  refine wp_region_held_drew (S := (fun W' => W'.cell? ⟨f, 0, none⟩ = some (.pointer (some ⟨q, 0, none⟩)))) (by kernel_rfl) hf (fun _ => ?_)
  refine wpAnyH_take (i := 0) (v := .pointer (some ⟨p, 0, none⟩)) rfl (by kernel_rfl) (by kernel_rfl) (by kernel_rfl) (fun _ _ _ h => h) (Or.inl ⟨by kernel_rfl, fun w hS => by go_simp⟩) hf ?_
  simp only [List.getElem_toArray, List.getElem_cons_succ, List.getElem_cons_zero, Act.put, List.setIfInBounds_toArray, List.set_cons_zero, List.set_cons_succ]
  refine wpAnyH_take (i := 2) (v := .pointer (some ⟨q, 0, none⟩)) rfl (by kernel_rfl) (by kernel_rfl) (by kernel_rfl) (fun _ _ _ h => h) (Or.inl ⟨by kernel_rfl, fun w hS => by go_simp⟩) hf ?_
  simp only [List.getElem_toArray, List.getElem_cons_succ, List.getElem_cons_zero, Act.put, List.setIfInBounds_toArray, List.set_cons_zero, List.set_cons_succ]
  refine wpAnyH_ready (rs := [1]) (by kernel_rfl) (by simp) ?_
  refine AllReadyH.cons rfl (fun K hK => ?_) AllReadyH.nil
  rw [if_pos (by rfl)]
  go_simp
  refine (HP1.out _ (by first | exact HBc.out | exact below_drewN HBc.out _ | exact HBc.out.drew)).mono ?_
  rintro r w3 ⟨V1, c1, rfl, hO, hb⟩
  have hb2 : Below w.heap.size w w3 := by first | exact HBc.out.trans (hb.mono HBc.out.size) | exact HBc.out.trans ((below_of_drew hb).mono HBc.out.size) | exact HBc.out.trans ((below_of_drewN hb).mono HBc.out.size)
  have HR1 := Lib.hid hO.reads
  clear hf HBc
  have HBc := Lib.hid hb2
  have hf := HF.out _ hb2
  clear hO hb hb2
  refine hK.out _ _ hf (fun _ => ?_)
  clear hK K
  try simp only [List.getElem_toArray, List.getElem_cons_succ, List.getElem_cons_zero, Act.put, List.setIfInBounds_toArray, List.set_cons_zero, List.set_cons_succ]
  refine wpAnyH_ready (rs := [3]) (by kernel_rfl) (by simp) ?_
  refine AllReadyH.cons rfl (fun K hK => ?_) AllReadyH.nil
  rw [if_pos (by rfl)]
  go_simp
  refine (HQ1.out _ (by first | exact HBc.out | exact below_drewN HBc.out _ | exact HBc.out.drew)).mono ?_
  rintro r w4 ⟨V2, c2, rfl, hO, hb⟩
  have hb2 : Below w.heap.size w w4 := by first | exact HBc.out.trans (hb.mono HBc.out.size) | exact HBc.out.trans ((below_of_drew hb).mono HBc.out.size) | exact HBc.out.trans ((below_of_drewN hb).mono HBc.out.size)
  have HR2 := Lib.hid hO.reads
  have hb3 : Below w3.heap.size w3 w4 := by first | exact hb | exact below_of_drew hb | exact below_of_drewN hb
  have HR1n := Lib.hid ((HR1.out.below hb3).more hb3.size)
  clear hb3
  clear hf HBc
  have HBc := Lib.hid hb2
  have hf := HF.out _ hb2
  clear hO hb hb2
  refine hK.out _ _ hf (fun _ => ?_)
  clear hK K
  try simp only [List.getElem_toArray, List.getElem_cons_succ, List.getElem_cons_zero, Act.put, List.setIfInBounds_toArray, List.set_cons_zero, List.set_cons_succ]
  refine wpAnyH_ready (rs := [4]) (by kernel_rfl) (by simp) ?_
  refine AllReadyH.cons rfl (fun K hK => ?_) AllReadyH.nil
  rw [if_pos (by rfl)]
  go_simp
  refine (HEL2.out _ V1 V2 c1 c2 (by first | exact HR1n.out | exact HR1n.out.drew | exact HR1n.out.drewN _) (by first | exact HR2.out | exact HR2.out.drew | exact HR2.out.drewN _)).mono ?_
  rintro r w5 ⟨rfl, hb⟩
  have hb2 : Below w.heap.size w w5 := by first | exact HBc.out.trans (hb.mono HBc.out.size) | exact HBc.out.trans ((below_of_drew hb).mono HBc.out.size) | exact HBc.out.trans ((below_of_drewN hb).mono HBc.out.size)
  clear hf HBc
  have HBc := Lib.hid hb2
  have hf := HF.out _ hb2
  clear hb hb2
  refine hK.out _ _ hf (fun _ => ?_)
  clear hK K
  try simp only [List.getElem_toArray, List.getElem_cons_succ, List.getElem_cons_zero, Act.put, List.setIfInBounds_toArray, List.set_cons_zero, List.set_cons_succ]
  refine wpAnyH_take (i := 5) (v := .bool true) rfl (by kernel_rfl) (by kernel_rfl) (by kernel_rfl) (fun _ _ _ h => h) (Or.inl ⟨by kernel_rfl, fun w hS => by go_simp⟩) hf ?_
  simp only [List.getElem_toArray, List.getElem_cons_succ, List.getElem_cons_zero, Act.put, List.setIfInBounds_toArray, List.set_cons_zero, List.set_cons_succ]
  refine wpAnyH_take (i := 6) (v := .bool true) rfl (by kernel_rfl) (by kernel_rfl) (by kernel_rfl) (fun _ _ _ h => h) (Or.inl ⟨by kernel_rfl, fun w hS => by go_simp⟩) hf ?_
  simp only [List.getElem_toArray, List.getElem_cons_succ, List.getElem_cons_zero, Act.put, List.setIfInBounds_toArray, List.set_cons_zero, List.set_cons_succ]
  refine wpAnyH_take (i := 7) (v := undef) rfl (by kernel_rfl) (by kernel_rfl) (by kernel_rfl) (fun _ _ _ h => h) (Or.inr ⟨by kernel_rfl, rfl⟩) hf ?_
  simp only [List.getElem_toArray, List.getElem_cons_succ, List.getElem_cons_zero, Act.put, List.setIfInBounds_toArray, List.set_cons_zero, List.set_cons_succ]
  refine wpAnyH_take (i := 8) (v := undef) rfl (by kernel_rfl) (by kernel_rfl) (by kernel_rfl) (fun _ _ _ h => h) (Or.inr ⟨by kernel_rfl, rfl⟩) hf ?_
  simp only [List.getElem_toArray, List.getElem_cons_succ, List.getElem_cons_zero, Act.put, List.setIfInBounds_toArray, List.set_cons_zero, List.set_cons_succ]
  refine wpAnyH_take (i := 9) (v := undef) rfl (by kernel_rfl) (by kernel_rfl) (by kernel_rfl) (fun _ _ _ h => h) (Or.inr ⟨by kernel_rfl, rfl⟩) hf ?_
  simp only [List.getElem_toArray, List.getElem_cons_succ, List.getElem_cons_zero, Act.put, List.setIfInBounds_toArray, List.set_cons_zero, List.set_cons_succ]
  refine wpAnyH_take (i := 10) (v := undef) rfl (by kernel_rfl) (by kernel_rfl) (by kernel_rfl) (fun _ _ _ h => h) (Or.inr ⟨by kernel_rfl, rfl⟩) hf ?_
  simp only [List.getElem_toArray, List.getElem_cons_succ, List.getElem_cons_zero, Act.put, List.setIfInBounds_toArray, List.set_cons_zero, List.set_cons_succ]
  refine wpAnyH_take (i := 11) (v := undef) rfl (by kernel_rfl) (by kernel_rfl) (by kernel_rfl) (fun _ _ _ h => h) (Or.inr ⟨by kernel_rfl, rfl⟩) hf ?_
  simp only [List.getElem_toArray, List.getElem_cons_succ, List.getElem_cons_zero, Act.put, List.setIfInBounds_toArray, List.set_cons_zero, List.set_cons_succ]
  refine wpAnyH_take (i := 12) (v := undef) rfl (by kernel_rfl) (by kernel_rfl) (by kernel_rfl) (fun _ _ _ h => h) (Or.inr ⟨by kernel_rfl, rfl⟩) hf ?_
  simp only [List.getElem_toArray, List.getElem_cons_succ, List.getElem_cons_zero, Act.put, List.setIfInBounds_toArray, List.set_cons_zero, List.set_cons_succ]
  refine wpAnyH_take (i := 13) (v := .bool true) rfl (by kernel_rfl) (by kernel_rfl) (by kernel_rfl) (fun _ _ _ h => h) (Or.inl ⟨by kernel_rfl, fun w hS => by go_simp⟩) hf ?_
  simp only [List.getElem_toArray, List.getElem_cons_succ, List.getElem_cons_zero, Act.put, List.setIfInBounds_toArray, List.set_cons_zero, List.set_cons_succ]
  refine wpAnyH_take (i := 14) (v := .bool true) rfl (by kernel_rfl) (by kernel_rfl) (by kernel_rfl) (fun _ _ _ h => h) (Or.inl ⟨by kernel_rfl, fun w hS => by go_simp⟩) hf ?_
  simp only [List.getElem_toArray, List.getElem_cons_succ, List.getElem_cons_zero, Act.put, List.setIfInBounds_toArray, List.set_cons_zero, List.set_cons_succ]
  refine wpAnyH_done (by kernel_rfl) ?_ _
  go_wp2_with fail
  go_ret
  exact ⟨rfl, HBc.out⟩
theorem nsame_fn (w : World) (B1 B2 : Nat) (S1 S2 : List Nat) (p q f : Nat) (s1 s2 : LDoc) (D1 D2 : DLay) (h1 : DocIs w B1 S1 p s1 D1) (h2 : DocIs w B2 S2 q s2 D2) (ok1 : s1.Ok) (ok2 : s2.Ok) (hf : w.cell? ⟨f, 0, none⟩ = some (.pointer (some ⟨q, 0, none⟩))) (hfl : f < w.heap.size) :
    Calls Tryz.prog 75 #[.pointer (some ⟨p, 0, none⟩), .pointer (some ⟨f, 0, none⟩)] w (CheckPost w (.bool (!sameD s1 s2))) := by
  by_cases hbk : s1.book = s2.book
  · exact nsame_fn_t w B1 B2 S1 S2 p q f s1 s2 D1 D2 h1 h2 ok1 ok2 hf hfl hbk
  · exact nsame_fn_f w B1 B2 S1 S2 p q f s1 s2 D1 D2 h1 h2 ok1 ok2 hf hfl hbk
def NIdxLoop2 (w : World) (N : LNet) (n : Nat) (i : Value) (wr : World) : Prop := ∃ k : Nat, k ≤ n ∧ i = .int .i64 (k : Nat) ∧ Hid (Below w.heap.size w wr) ∧ Hid (∀ j, j < k → sameD (N.doc j) (N.doc 0) = true)
/-- The first that is another: there is one just if not all are the same. -/
def NIdxPost (w : World) (N : LNet) (n : Nat) (e : Ending) (w' : World) : Prop := ∃ r : Int, e = .returned (.int .i64 r) ∧ (0 ≤ r ↔ ∃ j, j < n ∧ sameD (N.doc j) (N.doc 0) = false) ∧ -1 ≤ r ∧ Below w.heap.size w w'
set_option maxRecDepth 100000 in
set_option maxHeartbeats 4000000 in
theorem nidx_any (w : World) (B : Nat) (S : List Nat) (b : Nat) (N : LNet) (ds : List NodeAt) (A1 : Option Addr) (c1 : Nat) (A2 : Option Addr) (c2 : Nat) (h : NetAt w B S b N ds A1 c1 A2 c2) (ok : N.Ok)
    (f p0 : Nat) (h0 : 0 < ds.length) (hp0 : ds[0].b = p0) (hf : w.cell? ⟨f, 0, none⟩ = some (.pointer (some ⟨p0, 0, none⟩))) (hfl : f < w.heap.size) :
    Calls Tryz.prog 134 #[.slice A1 ds.length c1, .func (Fn.func 75) #[] #[.pointer (some ⟨f, 0, none⟩)]] w (NIdxPost w N ds.length) := by
  have HF : Hid (∀ W, Below w.heap.size w W → W.cell? ⟨f, 0, none⟩ = some (.pointer (some ⟨p0, 0, none⟩))) := fun W hW => (hW.cell (p := ⟨f, 0, none⟩) hfl).trans hf
  have HFN : Hid (∀ W, Below w.heap.size w W → ∀ k (hk : k < ds.length), Calls Tryz.prog 75 #[.pointer (some ⟨ds[k].b, 0, none⟩), .pointer (some ⟨f, 0, none⟩)] W (CheckPost W (.bool (!sameD (N.doc k) (N.doc 0))))) := fun W hW k hk => by
    have hA := h.below hW
    exact nsame_fn W B B _ _ _ p0 f _ _ _ _ (hA.nodes k hk) (by rw [← hp0]; exact hA.nodes 0 h0) (ok.doc k) (ok.doc 0) (HF.out W hW) (Nat.lt_of_lt_of_le hfl hW.size)
  obtain ⟨g, rfl, _⟩ := h.ptr h0
  have h4 := (h.lt4 ok).2
  have HPT : Hid (∀ W, Below w.heap.size w W → ∀ k (hk : k < ds.length), W.cell? ⟨g, k, none⟩ = some (.pointer (some ⟨ds[k].b, 0, none⟩))) := fun W hW k hk => by
    obtain ⟨g', e', hp⟩ := (h.below hW).ptr hk
    injection e' with e'
    injection e' with e'
    subst e'
    exact hp
  clear h hf hp0
  go_enter Tryz.func134, Tryz.ntmps134
  go_wp2_with fail
  go_loopw [8] (fun i wr => NIdxLoop2 w N ds.length i wr) (fun i _ => ds.length - (intOf i).toNat)
  case atStart => exact ⟨0, by omega, rfl, Below.refl _ _, fun j hj => by omega⟩
  case round =>
    obtain ⟨k, hk, rfl, HBr, HN⟩ := hrel
    by_cases hkn : k < ds.length
    · have hlt : (k : Int) < (ds.length : Int) := by omega
      have hk0 : (0 : Int) ≤ (k : Int) := by omega
      have cp := HPT.out wr HBr.out k hkn
      have HC := Lib.hid (HFN.out wr HBr.out k hkn)
      generalize ds[k].b = pk at *
      cases hs : sameD (N.doc k) (N.doc 0) with
      | true =>
        rw [hs] at HC
        have HN2 : Hid (∀ j, j < k + 1 → sameD (N.doc j) (N.doc 0) = true) := fun j hj => by
          rcases Nat.lt_or_ge j k with h | h
          · exact HN.out j h
          · have : j = k := by omega
            subst this; exact hs
        clear hs
        go_wp2_with fail
        refine HC.out.mono ?_
        rintro e w1 ⟨rfl, hb1⟩
        have HB1 := Lib.hid (HBr.out.trans (hb1.mono HBr.out.size))
        clear hb1 cp
        rw [show (!true) = false from rfl]
        go_wp2_with fail
        go_roundw
        case rel => exact ⟨k + 1, by omega, by go_num, HB1, HN2⟩
        case measure => simp [intOf]; omega
      | false =>
        rw [hs] at HC
        have HR : Hid (0 ≤ (k : Int) ↔ ∃ j, j < ds.length ∧ sameD (N.doc j) (N.doc 0) = false) := ⟨fun _ => ⟨k, hkn, hs⟩, fun _ => by omega⟩
        clear hs
        go_wp2_with fail
        refine HC.out.mono ?_
        rintro e w1 ⟨rfl, hb1⟩
        have HB1 := Lib.hid (HBr.out.trans (hb1.mono HBr.out.size))
        clear hb1 cp
        rw [show (!false) = true from rfl]
        go_wp2_with fail
        go_ret
        exact ⟨(k : Int), rfl, HR.out, by omega, HB1.out⟩
    · have k1 : ¬ (k : Int) < (ds.length : Int) := by omega
      have HR : Hid (0 ≤ (-1 : Int) ↔ ∃ j, j < ds.length ∧ sameD (N.doc j) (N.doc 0) = false) := ⟨fun h => by omega, fun ⟨j, hj, hs⟩ => by have := HN.out j (by omega); rw [hs] at this; cases this⟩
      go_wp2_with fail
      go_ret
      exact ⟨-1, rfl, HR.out, by omega, HBr.out⟩
set_option maxRecDepth 100000 in
theorem ncont_any (w : World) (B : Nat) (S : List Nat) (b : Nat) (N : LNet) (ds : List NodeAt) (A1 : Option Addr) (c1 : Nat) (A2 : Option Addr) (c2 : Nat) (h : NetAt w B S b N ds A1 c1 A2 c2) (ok : N.Ok)
    (f p0 : Nat) (h0 : 0 < ds.length) (hp0 : ds[0].b = p0) (hf : w.cell? ⟨f, 0, none⟩ = some (.pointer (some ⟨p0, 0, none⟩))) (hfl : f < w.heap.size) :
    Calls Tryz.prog 74 #[.slice A1 ds.length c1, .func (Fn.func 75) #[] #[.pointer (some ⟨f, 0, none⟩)]] w (CheckPost w (.bool (!N.sameB))) := by
  have HI := Lib.hid (nidx_any w B S b N ds A1 c1 A2 c2 h ok f p0 h0 hp0 hf hfl)
  have HS : Hid (N.sameB = true ↔ ¬ ∃ j, j < ds.length ∧ sameD (N.doc j) (N.doc 0) = false) := by
    show _ ↔ _
    unfold LNet.sameB
    rw [List.all_eq_true]
    constructor
    · rintro hh ⟨j, hj, hs⟩
      have hj2 : j < N.docs.length := by rw [← h.len]; exact hj
      have := hh (N.docs[j]) (List.getElem_mem hj2)
      rw [sameD_iff, LNet.doc_get hj2] at hs
      rw [hs] at this
      cases this
    · intro hh d hd
      obtain ⟨j, hj, rfl⟩ := List.getElem_of_mem hd
      cases hs : decide (N.docs[j].book = (N.doc 0).book ∧ N.docs[j].marks = (N.doc 0).marks)
      · exact absurd ⟨j, by rw [h.len]; exact hj, by rw [sameD_iff, LNet.doc_get hj]; exact hs⟩ hh
      · rfl
  clear h hf hp0
  go_enter Tryz.func74, Tryz.ntmps74
  go_wp2_with fail
  refine HI.out.mono ?_
  rintro e w1 ⟨r, rfl, hr, hr1, hb⟩
  have HB := Lib.hid hb
  cases hsb : N.sameB with
  | true =>
    have hn : ¬ 0 ≤ r := fun hh => (HS.out.1 hsb) (hr.1 hh)
    have hn2 : r = -1 := by omega
    subst hn2
    have HSB := Lib.hid hsb
    clear hb hr hr1 hsb hn
    go_wp2_with fail
    go_ret
    exact ⟨by rw [HSB.out]; rfl, HB.out⟩
  | false =>
    have hn : 0 ≤ r := by
      apply Classical.byContradiction
      intro hh
      have : N.sameB = true := HS.out.2 (fun hx => hh (hr.2 hx))
      rw [hsb] at this; cases this
    have hn2 : r ≥ 0 := hn
    have HSB := Lib.hid hsb
    clear hb hr hr1 hsb
    go_wp2_with fail
    go_ret
    exact ⟨by rw [HSB.out]; rfl, HB.out⟩
set_option maxRecDepth 100000 in
theorem nsame_any (w : World) (B : Nat) (S : List Nat) (b : Nat) (N : LNet) (h : NetIs w B S b N) (ok : N.Ok) :
    Calls Tryz.prog 26 #[.pointer (some ⟨b, 0, none⟩)] w (CheckPost w (.bool N.sameB)) := by
  obtain ⟨ds, A1, c1, A2, c2, h⟩ := h
  have h0 : 0 < ds.length := (h.lt4 ok).1
  obtain ⟨g, rfl, hp⟩ := h.ptr h0
  obtain ⟨p0, hp0⟩ : ∃ p0, ds[0].b = p0 := ⟨_, rfl⟩
  rw [hp0] at hp
  have q0 := h.cells.1
  have k1 : (0 : Int) < (ds.length : Int) := by omega
  have hb1 : Below w.heap.size w (w.alloc (.cells #[.pointer (some ⟨p0, 0, none⟩)] 38)) := (Below.refl _ _).alloc (Nat.le_refl _) _
  have hA := h.below hb1
  have HC := Lib.hid (ncont_any _ B S b N ds _ c1 A2 c2 hA ok w.heap.size p0 h0 hp0 (by rw [(Blk.new w _ _).cell]; rfl) (by simp))
  have HB1 := Lib.hid hb1
  have q1 : (w.alloc (.cells #[.pointer (some ⟨p0, 0, none⟩)] 38)).cell? ⟨b, 0, none⟩ = some (.slice (some ⟨g, 0, none⟩) ds.length c1) := hA.cells.1
  generalize N.sameB = sb at *
  clear h hA ok hb1 hp0
  go_enter Tryz.func26, Tryz.ntmps26
  go_wp2_with fail
  refine HC.out.mono ?_
  rintro e w1 ⟨rfl, hb⟩
  have HB := Lib.hid (HB1.out.trans (hb.mono HB1.out.size))
  clear hb
  cases sb with
  | true =>
    rw [show (!true) = false from rfl]
    go_wp2_with fail
    go_ret
    exact ⟨rfl, HB.out⟩
  | false =>
    rw [show (!false) = true from rfl]
    go_wp2_with fail
    go_ret
    exact ⟨rfl, HB.out⟩
end Go.Proofs.YtkaccnegdmpofaaGreatDoor
/- errors.As at an Errno. Conditions: the library's one variable holds what its text lays. (After the guide's worked toy on errors.As.) -/
namespace Go.Proofs.YtkaccnegdmpofaaGreatDoor
open Go.RowKit Go.Extern.Stop Go.Stop Go.Extern
set_option linter.unusedVariables false
namespace As

theorem valueOfP (t : Addr) (w : World) : (ReflectliteValue.unpack (.iface 163 (.pointer (some t)))).run Tryz.prog w
    = .ok (.agg #[.pointer (some ⟨2, 163, none⟩), .pointer (some ⟨w.heap.size, 0, none⟩), .int .u64 150]) (w.alloc (.cells #[.pointer (some t)] 163)) := by kernel_rfl
theorem typeP (a : Addr) (w : World) : (ReflectliteValue.methodAny (ReflectliteValue.valueError "reflectlite.Value.Type" 0) (fun t _ _ _ => ReflectliteType.toType t) #[.agg #[.pointer (some ⟨2, 163, none⟩), .pointer (some a), .int .u64 150]]).run Tryz.prog w
    = .ok (.iface 257 (.agg #[.pointer (some ⟨2, 163, none⟩)])) w := by kernel_rfl
theorem kindP (w : World) : ((ReflectliteType.abiMethod fun t => (fun a : Nat => Value.int IntKind.u8 (a : Int)) <$> Rtype.kind t) #[.pointer (some ⟨2, 163, none⟩)]).run Tryz.prog w = .ok (.int .u8 22) w := by kernel_rfl
theorem kindE (w : World) : ((ReflectliteType.abiMethod fun t => (fun a : Nat => Value.int IntKind.u8 (a : Int)) <$> Rtype.kind t) #[.pointer (some ⟨2, 97, none⟩)]).run Tryz.prog w = .ok (.int .u8 2) w := by kernel_rfl
theorem rlm (z : Sem Value) (f : TypeId → Addr → Nat → Nat → Sem Value) (v : Value) :
    ReflectliteValue.method z f #[v] = (do match ← ReflectliteValue.parts v with | none => z | some (t, a, fl) => f t a fl (fl % 32)) := rfl
theorem partsP (a : Addr) (w : World) : (ReflectliteValue.parts (.agg #[.pointer (some ⟨2, 163, none⟩), .pointer (some a), .int .u64 150])).run Tryz.prog w = .ok (some (163, a, 150)) w := by kernel_rfl
theorem isNilP (a p : Addr) (W : World) (ha : W.cell? a = some (.pointer (some p))) :
    (ReflectliteValue.method (ReflectliteValue.valueError "reflectlite.Value.IsNil" 0) ReflectliteValue.isNil #[.agg #[.pointer (some ⟨2, 163, none⟩), .pointer (some a), .int .u64 150]]).run Tryz.prog W = .ok (.bool false) W := by
  rw [rlm]
  simp only [Sem.run_bind, partsP, Result.andThen]
  simp [ReflectliteValue.isNil, loadVar, isAgg, underlying, Tryz.underlying163, ha, Result.andThen]
theorem elemP (w : World) : (ReflectliteType.method ReflectliteType.elem #[.agg #[.pointer (some ⟨2, 163, none⟩)]]).run Tryz.prog w = .ok (.iface 257 (.agg #[.pointer (some ⟨2, 97, none⟩)])) w := by kernel_rfl
theorem implementsE (w : World) : (ReflectliteType.relation "Implements" ReflectliteType.implements_ #[.agg #[.pointer (some ⟨2, 97, none⟩)], .iface 257 (.agg #[.pointer (some ⟨2, 26, none⟩)])]).run Tryz.prog w = .ok (.bool true) w := by kernel_rfl
theorem typeOfE (v : Value) (w : World) : (ReflectliteType.typeOf #[.iface 97 v]).run Tryz.prog w = .ok (.iface 257 (.agg #[.pointer (some ⟨2, 97, none⟩)])) w := by kernel_rfl
theorem assignableE (w : World) : (ReflectliteType.relation "AssignableTo" ReflectliteType.assignableTo #[.agg #[.pointer (some ⟨2, 97, none⟩)], .iface 257 (.agg #[.pointer (some ⟨2, 97, none⟩)])]).run Tryz.prog w = .ok (.bool true) w := by kernel_rfl
theorem valueOfE (n : Int) (w : World) : (ReflectliteValue.unpack (.iface 97 (.int .i64 n))).run Tryz.prog w
    = .ok (.agg #[.pointer (some ⟨2, 97, none⟩), .pointer (some ⟨w.heap.size, 0, none⟩), .int .u64 130]) (w.alloc (.cells #[.int .i64 n] 97)) := by kernel_rfl
theorem elemOfP (w : World) : (Rtype.elem? 163).run Tryz.prog w = .ok (some 97) w := by kernel_rfl
theorem mkE (p : Addr) (w : World) : (ReflectliteValue.mk 97 p ReflectliteValue.flagAddr).run Tryz.prog w = .ok (.agg #[.pointer (some ⟨2, 97, none⟩), .pointer (some p), .int .u64 386]) w := by kernel_rfl
theorem elemVP (a p : Addr) (W : World) (ha : W.cell? a = some (.pointer (some p))) :
    (ReflectliteValue.method (ReflectliteValue.valueError "reflectlite.Value.Elem" 0) ReflectliteValue.elem #[.agg #[.pointer (some ⟨2, 163, none⟩), .pointer (some a), .int .u64 150]]).run Tryz.prog W
      = .ok (.agg #[.pointer (some ⟨2, 97, none⟩), .pointer (some p), .int .u64 386]) W := by
  rw [rlm]
  simp only [Sem.run_bind, partsP, Result.andThen]
  simp [ReflectliteValue.elem, loadVar, isAgg, underlying, Tryz.underlying163, ha, Result.andThen, elemOfP, mkE]
theorem methodKind (k : Nat) (h : Value) (w : World) : (Go.method (k + 3) 257 (.agg #[h]) "Kind").run Tryz.prog w = .ok (238, h) w := by kernel_rfl
theorem methodElem (k : Nat) (h : Value) (w : World) : (Go.method (k + 3) 257 (.agg #[h]) "Elem").run Tryz.prog w = .ok (249, .agg #[h]) w := by kernel_rfl
theorem methodImplements (k : Nat) (h : Value) (w : World) : (Go.method (k + 3) 257 (.agg #[h]) "Implements").run Tryz.prog w = .ok (250, .agg #[h]) w := by kernel_rfl
theorem methodAssignableTo (k : Nat) (h : Value) (w : World) : (Go.method (k + 3) 257 (.agg #[h]) "AssignableTo").run Tryz.prog w = .ok (247, .agg #[h]) w := by kernel_rfl
theorem set_run (ta b : Addr) (W : World) :
    (ReflectliteValue.set #[.agg #[.pointer (some ⟨2, 97, none⟩), .pointer (some ta), .int .u64 386], .agg #[.pointer (some ⟨2, 97, none⟩), .pointer (some b), .int .u64 130]]).run Tryz.prog W
      = (do let val ← loadVar 97 b; storeVar 97 ta val; pure (.tuple #[]) : Sem Value).run Tryz.prog W := by kernel_rfl
theorem setE (ta b : Addr) (n : Int) (old : Value) (W : World) (hb : W.cell? b = some (.int .i64 n)) (ht : W.cell? ta = some old) (hf : W.frozen? ta = false) :
    (ReflectliteValue.set #[.agg #[.pointer (some ⟨2, 97, none⟩), .pointer (some ta), .int .u64 386], .agg #[.pointer (some ⟨2, 97, none⟩), .pointer (some b), .int .u64 130]]).run Tryz.prog W
      = .ok (.tuple #[]) (W.setCell ta (.int .i64 n)) := by
  rw [set_run]
  simp only [Sem.run_bind]
  simp [loadVar, isAgg, underlying, Tryz.underlying97, hb, Result.andThen, storeVar, Value.cells, storeCells, Addr.add]
  rw [run_store Tryz.prog W ta _ _ (by rfl)]
  simp [ht, hf]
set_option maxRecDepth 100000 in
set_option maxHeartbeats 4000000 in
theorem as_hit (n : Int) (t : Addr) (old : Value) (w : World) (hg : w.cell? ⟨1, 0, none⟩ = some (.iface 257 (.agg #[.pointer (some ⟨2, 26, none⟩)]))) (ht0 : w.cell? t = some old) (hf0 : w.frozen? t = false) :
    Calls Tryz.prog 95 #[.iface 97 (.int .i64 n), .iface 163 (.pointer (some t))] w fun ev w' => ev = .returned (.bool true) ∧ w' = ((((w.alloc (.cells #[.pointer (some t)] 163)).alloc (.cells #[.pointer (some ⟨2, 163, none⟩), .pointer (some ⟨w.heap.size, 0, none⟩), .int .u64 150] 220)).alloc (.cells #[.pointer (some ⟨2, 163, none⟩), .pointer (some ⟨w.heap.size, 0, none⟩), .int .u64 150] 220)).alloc (.cells #[.int .i64 n] 97)).setCell t (.int .i64 n) := by
  have hVO := @run_callFunc_extern Tryz.prog 149 _ (fun args => ReflectliteValue.unpack (args.getD 0 (.tuple #[]))) Tryz.func149 (by kernel_rfl) (by kernel_rfl) (by kernel_rfl) (by kernel_rfl)
  have hTy := @run_callFunc_extern Tryz.prog 150 _ (ReflectliteValue.methodAny (ReflectliteValue.valueError "reflectlite.Value.Type" 0) (fun t _ _ _ => ReflectliteType.toType t)) Tryz.func150 (by kernel_rfl) (by kernel_rfl) (by kernel_rfl) (by kernel_rfl)
  have hNi := @run_callFunc_extern Tryz.prog 151 _ (ReflectliteValue.method (ReflectliteValue.valueError "reflectlite.Value.IsNil" 0) ReflectliteValue.isNil) Tryz.func151 (by kernel_rfl) (by kernel_rfl) (by kernel_rfl) (by kernel_rfl)
  have hKi := @run_callFunc_extern Tryz.prog 238 _ (ReflectliteType.abiMethod fun t => do pure (.int .u8 (← Rtype.kind t))) Tryz.func238 (by kernel_rfl) (by kernel_rfl) (by kernel_rfl) (by kernel_rfl)
  have hEl := @run_callFunc_extern Tryz.prog 249 _ (ReflectliteType.method ReflectliteType.elem) Tryz.func249 (by kernel_rfl) (by kernel_rfl) (by kernel_rfl) (by kernel_rfl)
  have hIm := @run_callFunc_extern Tryz.prog 250 _ (ReflectliteType.relation "Implements" ReflectliteType.implements_) Tryz.func250 (by kernel_rfl) (by kernel_rfl) (by kernel_rfl) (by kernel_rfl)
  have hTO := @run_callFunc_extern Tryz.prog 176 _ ReflectliteType.typeOf Tryz.func176 (by kernel_rfl) (by kernel_rfl) (by kernel_rfl) (by kernel_rfl)
  have hAs := @run_callFunc_extern Tryz.prog 247 _ (ReflectliteType.relation "AssignableTo" ReflectliteType.assignableTo) Tryz.func247 (by kernel_rfl) (by kernel_rfl) (by kernel_rfl) (by kernel_rfl)
  have hVE := @run_callFunc_extern Tryz.prog 177 _ (ReflectliteValue.method (ReflectliteValue.valueError "reflectlite.Value.Elem" 0) ReflectliteValue.elem) Tryz.func177 (by kernel_rfl) (by kernel_rfl) (by kernel_rfl) (by kernel_rfl)
  have hVS := @run_callFunc_extern Tryz.prog 178 _ ReflectliteValue.set Tryz.func178 (by kernel_rfl) (by kernel_rfl) (by kernel_rfl) (by kernel_rfl)
  have tO := typeOfE
  have a25 := assignableE
  have v25 := valueOfE
  have f6 := valueOfP
  have f7 := typeP
  have mK := methodKind
  have mE := methodElem
  have mI := methodImplements
  have mA := methodAssignableTo
  have k27 := kindP
  have k25 := kindE
  have e27 := elemP
  have i25 := implementsE
  have n8 := isNilP ⟨w.heap.size, 0, none⟩ t ((w.alloc (.cells #[.pointer (some t)] 163)).alloc (.cells #[.pointer (some ⟨2, 163, none⟩), .pointer (some ⟨w.heap.size, 0, none⟩), .int .u64 150] 220)) (by simp)
  have hlt : 1 < w.heap.size := by
    rcases Nat.lt_or_ge 1 w.heap.size with h | h1
    · exact h
    · simp [World.cell?, Array.getElem?_eq_none h1] at hg
  have hg2 : ((w.alloc (.cells #[.pointer (some t)] 163)).alloc (.cells #[.pointer (some ⟨2, 163, none⟩), .pointer (some ⟨w.heap.size, 0, none⟩), .int .u64 150] 220)).cell? ⟨1, 0, none⟩ = some (.iface 257 (.agg #[.pointer (some ⟨2, 26, none⟩)])) := by
    rw [World.cell?_alloc_lt _ _ ⟨1, 0, none⟩ (Nat.lt_of_lt_of_le hlt (by simp)), World.cell?_alloc_lt _ _ ⟨1, 0, none⟩ hlt]; exact hg
  have htl : t.block < w.heap.size := by
    rcases Nat.lt_or_ge t.block w.heap.size with h | h
    · exact h
    · simp [World.cell?, Array.getElem?_eq_none h] at ht0
  have el := elemVP ⟨w.heap.size, 0, none⟩ t (((w.alloc (.cells #[.pointer (some t)] 163)).alloc (.cells #[.pointer (some ⟨2, 163, none⟩), .pointer (some ⟨w.heap.size, 0, none⟩), .int .u64 150] 220)).alloc (.cells #[.pointer (some ⟨2, 163, none⟩), .pointer (some ⟨w.heap.size, 0, none⟩), .int .u64 150] 220)) (by rw [World.cell?_alloc_lt _ _ ⟨w.heap.size, 0, none⟩ (by simp; omega)]; simp)
  have st := setE t ⟨w.heap.size + 1 + 1 + 1, 0, none⟩ n old ((((w.alloc (.cells #[.pointer (some t)] 163)).alloc (.cells #[.pointer (some ⟨2, 163, none⟩), .pointer (some ⟨w.heap.size, 0, none⟩), .int .u64 150] 220)).alloc (.cells #[.pointer (some ⟨2, 163, none⟩), .pointer (some ⟨w.heap.size, 0, none⟩), .int .u64 150] 220)).alloc (.cells #[.int .i64 n] 97))
    (by rw [World.cell?_alloc_at _ _ _ _ (by simp)]; rfl)
    (by rw [World.cell?_alloc_lt _ _ t (by simp; omega), World.cell?_alloc_lt _ _ t (by simp; omega), World.cell?_alloc_lt _ _ t (by simp; omega), World.cell?_alloc_lt _ _ t htl]; exact ht0)
    (by rw [World.frozen?_alloc_old _ _ t (by simp; omega), World.frozen?_alloc_old _ _ t (by simp; omega), World.frozen?_alloc_old _ _ t (by simp; omega), World.frozen?_alloc_old _ _ t (Nat.ne_of_lt htl)]; exact hf0)
  go_enter Tryz.func95, Tryz.ntmps95
  go_wp2
  refine wp_loop_rounds 1 ?_
  rw [rounds_succ]
  go_wp2
  go_ret
  exact ⟨rfl, rfl⟩
end As
end Go.Proofs.YtkaccnegdmpofaaGreatDoor
/- plain.Told, leafsame.Error: the number of an error. Conditions: the library's one variable holds what its text lays. -/
namespace Go.Proofs.YtkaccnegdmpofaaGreatDoor
open Go.RowKit
set_option linter.unusedVariables false

/-- The library's one variable holds what its text lays. -/
def Glob (w : World) : Prop := w.cell? ⟨1, 0, none⟩ = some (.iface 257 (.agg #[.pointer (some ⟨2, 26, none⟩)]))
theorem Glob.lt {w : World} (h : Glob w) : 1 < w.heap.size := by
  rcases Nat.lt_or_ge 1 w.heap.size with h1 | h1
  · exact h1
  · unfold Glob at h; simp [World.cell?, Array.getElem?_eq_none h1] at h
theorem Glob.below {w w' : World} (h : Glob w) {B : Nat} (hb : Below B w w') (hB : w.heap.size ≤ B) : Glob w' := (hb.cell (p := ⟨1, 0, none⟩) (Nat.lt_of_lt_of_le h.lt hB)).trans h
theorem Glob.alloc {w : World} (h : Glob w) (o : Obj) : Glob (w.alloc o) := h.below ((Below.refl _ _).alloc (Nat.le_refl _) _) (Nat.le_refl _)

set_option maxRecDepth 100000 in
set_option maxHeartbeats 1000000 in
theorem told_any (w : World) (k : Int) (hg : Glob w) : Calls Tryz.prog 44 #[errV k] w (CheckPost w (.int .i64 k)) := by
  by_cases h : k = 0
  · subst h
    rw [show errV 0 = .nilIface from rfl]
    go_enter Tryz.func44, Tryz.ntmps44
    go_wp2_with fail
    go_ret
    exact ⟨rfl, Below.refl _ _⟩
  · rw [errV_ne h]
    have HA := Lib.hid (As.as_hit k ⟨w.heap.size, 0, none⟩ (.int .i64 0) (w.alloc (.cells #[.int .i64 0] 97)) (hg.alloc _) (by simp) (by simp))
    have hsz : w.heap.size < w.heap.size + 1 := by omega
    clear h hg
    go_enter Tryz.func44, Tryz.ntmps44
    go_wp2_with fail
    refine HA.out.mono ?_
    rintro e w1 ⟨rfl, hw1⟩
    have hc : w1.cell? ⟨w.heap.size, 0, none⟩ = some (.int .i64 k) := by
      rw [hw1]
      refine World.cell?_setCell_same _ _ _ (u := .int .i64 0) ?_
      rw [World.cell?_alloc_lt _ _ _ (by simp; omega), World.cell?_alloc_lt _ _ _ (by simp; omega), World.cell?_alloc_lt _ _ _ (by simp; omega), World.cell?_alloc_lt _ _ _ (by simp)]
      simp
    have hb : Hid (Below w.heap.size w w1) := by
      show Below _ _ _
      rw [hw1]
      exact (((((((Below.refl _ _).alloc (Nat.le_refl _) _).alloc (by simp) _).alloc (by simp; omega) _).alloc (by simp; omega) _).alloc (by simp; omega) _).setCell (by simp) _)
    clear hw1 HA
    go_wp2_with fail
    go_ret
    exact ⟨rfl, hb.out⟩
set_option maxRecDepth 100000 in
theorem error_any (w : World) (k e : Int) (hg : Glob w) : Calls Tryz.prog 10 #[errV k, .int .i64 e] w (CheckPost w (.bool (k == e))) := by
  have HT := Lib.hid (told_any w k hg)
  clear hg
  go_enter Tryz.func10, Tryz.ntmps10
  go_wp2_with fail
  refine HT.out.mono ?_
  rintro e1 w1 ⟨rfl, hb⟩
  go_wp2_with fail
  go_ret
  exact ⟨rfl, hb⟩
end Go.Proofs.YtkaccnegdmpofaaGreatDoor
/- Arguments opened: texts, numbers. Plain lemmas. Conditions: none of our own. -/
namespace Go.Proofs.YtkaccnegdmpofaaGreatDoor
open Go.RowKit Go.WideShapes Go.ChangeShapes Go.Deep
set_option linter.unusedVariables false
theorem cellsFInt : Tryz.prog.cellsOf 3 = 1 := by kernel_rfl
section
variable {H : Type} {enc : TypeId × Value → H} {w : World} {base : Nat} {spare : Nat → Bool} {held : Bool}
end
end Go.Proofs.YtkaccnegdmpofaaGreatDoor
/- Rows of events; the argument opened. Plain lemmas. Conditions: none of our own. -/
namespace Go.Proofs.YtkaccnegdmpofaaGreatDoor
open Go.RowKit Go.WideShapes Go.ChangeShapes Go.Deep
set_option linter.unusedVariables false
instance : Inhabited LEv := ⟨⟨0, 0, 0, 0⟩⟩
theorem add_pos (a : Addr) (j : Nat) (h : 0 < j) : a.add j = ⟨a.block, a.off + j, none⟩ := by unfold Addr.add; rw [if_neg (by omega)]
def LEv.cell (e : LEv) : List Value := [.int .i64 e.what, .int .i64 e.a, .int .i64 e.b, .int .i64 e.c]
def evcells (l : List LEv) : List Value := l.flatMap LEv.cell
theorem evcells_at (l : List LEv) (i : Nat) (h : i < l.length) : (evcells l)[i * 4]? = some (.int .i64 l[i].what) ∧ (evcells l)[i * 4 + 1]? = some (.int .i64 l[i].a) ∧ (evcells l)[i * 4 + 2]? = some (.int .i64 l[i].b) ∧ (evcells l)[i * 4 + 3]? = some (.int .i64 l[i].c) := by
  induction l generalizing i with
  | nil => simp at h
  | cons p l ih =>
    cases i with
    | zero => exact ⟨rfl, rfl, rfl, rfl⟩
    | succ i =>
      have e : evcells (p :: l) = p.cell ++ evcells l := rfl
      obtain ⟨h1, h2, h3, h4⟩ := ih i (by simpa using h)
      have hl : p.cell.length = 4 := rfl
      rw [e, List.getElem?_append_right (by rw [hl]; omega), List.getElem?_append_right (by rw [hl]; omega), List.getElem?_append_right (by rw [hl]; omega), List.getElem?_append_right (by rw [hl]; omega), hl]
      simp only [List.getElem_cons_succ]
      refine ⟨?_, ?_, ?_, ?_⟩
      · rw [← h1]; congr 1; omega
      · rw [← h2]; congr 1; omega
      · rw [← h3]; congr 1; omega
      · rw [← h4]; congr 1; omega
theorem Reads.ev {w : World} {B : Nat} {A : Option Addr} {l : List LEv} (h : Reads w B 4 A l.length (evcells l)) {k : Nat} (hk : k < l.length) :
    ∃ ad, A = some ad ∧ ad.block < B ∧ w.cell? (ad.add (k * 4)) = some (.int .i64 l[k].what) ∧ w.cell? ⟨(ad.add (k * 4)).block, (ad.add (k * 4)).off + 1, none⟩ = some (.int .i64 l[k].a) ∧ w.cell? ⟨(ad.add (k * 4)).block, (ad.add (k * 4)).off + 2, none⟩ = some (.int .i64 l[k].b) ∧ w.cell? ⟨(ad.add (k * 4)).block, (ad.add (k * 4)).off + 3, none⟩ = some (.int .i64 l[k].c) := by
  obtain ⟨ad, e, hb, hc⟩ := h.2 (by omega)
  obtain ⟨h1, h2, h3, h4⟩ := evcells_at l k hk
  have key : ∀ j, 0 < j → (⟨(ad.add (k * 4)).block, (ad.add (k * 4)).off + j, none⟩ : Addr) = ad.add (k * 4 + j) := fun j hj => by
    rw [← add_of_add, add_pos _ j hj]
  exact ⟨ad, e, hb, hc _ _ h1, by rw [key 1 (by omega)]; exact hc _ _ h2, by rw [key 2 (by omega)]; exact hc _ _ h3, by rw [key 3 (by omega)]; exact hc _ _ h4⟩
theorem cellsEv : Tryz.prog.cellsOf 63 = 4 := by kernel_rfl
section
variable {H : Type} {enc : TypeId × Value → H} {w : World} {base : Nat} {spare : Nat → Bool} {held : Bool}
set_option maxRecDepth 100000 in
theorem open_ev {fuel : Nat} {cs : List Value} {x : DataW H × List MemPlace} (h : DataW.trod enc Tryz.prog w base spare held fuel 63 cs = some x) : ∃ y : LEv, cs = y.cell ∧ y.Wf := by
  have hT := Tryz.underlying63
  have hl := trod_len hT h
  rw [cellsEv] at hl
  match cs, hl with
  | [c0, c1, c2, c3], _ =>
    obtain ⟨n0, y0, g0⟩ : ∃ n y, DataW.trod enc Tryz.prog w base spare held n 3 [c0] = some y := trod_field hT h 0 _ rfl 1 cellsFInt
    obtain ⟨n1, y1, g1⟩ : ∃ n y, DataW.trod enc Tryz.prog w base spare held n 3 [c1] = some y := trod_field hT h 1 _ rfl 1 cellsFInt
    obtain ⟨n2, y2, g2⟩ : ∃ n y, DataW.trod enc Tryz.prog w base spare held n 3 [c2] = some y := trod_field hT h 2 _ rfl 1 cellsFInt
    obtain ⟨n3, y3, g3⟩ : ∃ n y, DataW.trod enc Tryz.prog w base spare held n 3 [c3] = some y := trod_field hT h 3 _ rfl 1 cellsFInt
    obtain ⟨a0, e0, _, w0⟩ := DataW.trod_int Tryz.underlying3 g0
    obtain ⟨a1, e1, _, w1⟩ := DataW.trod_int Tryz.underlying3 g1
    obtain ⟨a2, e2, _, w2⟩ := DataW.trod_int Tryz.underlying3 g2
    obtain ⟨a3, e3, _, w3⟩ := DataW.trod_int Tryz.underlying3 g3
    simp at e0 e1 e2 e3
    subst e0 e1 e2 e3
    exact ⟨⟨a0, a1, a2, a3⟩, rfl, i64_of_wf w0, i64_of_wf w1, i64_of_wf w2, i64_of_wf w3⟩
set_option maxRecDepth 100000 in
theorem arg_events {r : Reach} {b0 : Nat} {v : Value} {d : DataW H} {p : List MemPlace} (hv : Value.okWide Tryz.prog w r b0 57 v) (h : DataW.Trod enc Tryz.prog w base spare held 57 v d p) :
    ∃ (A : Option Addr) (cap : Nat) (l : List LEv), v = .slice A l.length cap ∧ Reads w w.heap.size 4 A l.length (evcells l) ∧ (∀ y ∈ l, y.Wf) ∧ l.length ≤ cap ∧ cap ≤ maxLen := by
  obtain ⟨a, len, c, rfl⟩ := okWide_slice Tryz.underlying57 hv
  obtain ⟨fuel, hf⟩ := h
  obtain ⟨A, cap, l, e, hr⟩ := open_list LEv.cell LEv.Wf Tryz.underlying57 cellsEv (by decide) (fun _ => rfl) (fun _ _ _ h => open_ev h) hf
  refine ⟨A, cap, l, ?_, hr⟩
  have e' : [Value.slice a len c] = [.slice A l.length cap] := e
  injection e'
end
end Go.Proofs.YtkaccnegdmpofaaGreatDoor
/- leaflaw3.NetMeets, walked: whatever was lost, late or doubled, when each has sent to each, all have the same book. Conditions: the library's one variable holds what its text lays. -/
namespace Go.Proofs.YtkaccnegdmpofaaGreatDoor
open Go.RowKit
set_option linter.unusedVariables false
theorem NSc.same {w wr : World} {B b : Nat} {N : LNet} (h : NSc w B b N wr) : Calls Tryz.prog 26 #[.pointer (some ⟨b, 0, none⟩)] wr (fun r w' => r = .returned (.bool N.sameB) ∧ NSc w B b N w') := by
  obtain ⟨h1, h2, h3, S, h4⟩ := id h
  exact (nsame_any wr B S b N h4 h2).mono fun r w' hh => ⟨hh.1, h.step hh.2⟩
namespace lawNetMeets
def L1 (w : World) (B b n : Nat) (i : Value) (wr : World) : Prop := ∃ (k : Nat) (N : LNet) (U : List LOp), k ≤ 60 ∧ i = .int .i64 (k : Nat) ∧ Hid (NSc w B b N wr) ∧ Hid (Fair U N) ∧ Hid (N.docs.length = n)
def L2 (w : World) (B b n : Nat) (k : Nat) (f : Value) (wr : World) : Prop := ∃ (v : Bool) (N : LNet) (U : List LOp), f = .bool v ∧ Hid (NSc w B b N wr) ∧ Hid (Fair U N) ∧ Hid (N.docs.length = n) ∧ N.under.length = k
/-- Each sends to each: the r-th round, of i to those before j. -/
def Mid (w : World) (B b n r i j : Nat) (v : Bool) (wr : World) : Prop := ∃ (N : LNet) (U : List LOp), NSc w B b N wr ∧ Fair U N ∧ N.docs.length = n ∧ N.under = [] ∧ (v = false → (r = 0 → Came N i j) ∧ (r ≠ 0 → Came N n 0))
namespace Mid
variable {w wr : World} {B b n r i j : Nat} {v : Bool}
theorem start {N : LNet} {U : List LOp} (h : NSc w B b N wr) (hf : Fair U N) (hl : N.docs.length = n) (hu : N.under = []) (v : Bool) : Mid w B b n 0 0 0 v wr := ⟨N, U, h, hf, hl, hu, fun _ => ⟨fun _ => Came.start N, fun hh => absurd rfl hh⟩⟩
theorem same (h : Mid w B b n r i i v wr) : Mid w B b n r i (i + 1) v wr := by
  obtain ⟨N, U, h1, h2, h3, h4, h5⟩ := h
  exact ⟨N, U, h1, h2, h3, h4, fun hv => ⟨fun hr => ((h5 hv).1 hr).same, (h5 hv).2⟩⟩
theorem row (h : Mid w B b n r i n v wr) : Mid w B b n r (i + 1) 0 v wr := by
  obtain ⟨N, U, h1, h2, h3, h4, h5⟩ := h
  subst h3
  exact ⟨N, U, h1, h2, rfl, h4, fun hv => ⟨fun hr => ((h5 hv).1 hr).row, (h5 hv).2⟩⟩
theorem round (h : Mid w B b n r n 0 v wr) : Mid w B b n (r + 1) 0 0 v wr := by
  obtain ⟨N, U, h1, h2, h3, h4, h5⟩ := h
  refine ⟨N, U, h1, h2, h3, h4, fun hv => ⟨fun hr => by omega, fun _ => ?_⟩⟩
  by_cases hr : r = 0
  · exact (h5 hv).1 hr
  · exact (h5 hv).2 hr
theorem below (h : Mid w B b n r i j v wr) : Below w.heap.size w wr := by
  obtain ⟨N, U, h1, _⟩ := h
  exact h1.below
theorem step {w' : World} (h : Mid w B b n r i j v wr) (hb : Below wr.heap.size wr w') : Mid w B b n r i j v w' := by
  obtain ⟨N, U, h1, h2⟩ := h
  exact ⟨N, U, h1.step hb, h2⟩
/-- One sends to another one, and it comes. -/
theorem mesh (h : Mid w B b n r i j v wr) (hi : i < n) (hj : j < n) (hij : i ≠ j) (hn : n ≤ 4) : ∃ ke : Int, (ke = 0 ∨ ke = 4) ∧
    Calls Tryz.prog 25 #[.pointer (some ⟨b, 0, none⟩), .agg #[.int .i64 3, .int .i64 i, .int .i64 j, .int .i64 0]] wr (fun e w1 => e = .returned .nilIface ∧ Hid (Below w.heap.size w w1 ∧
      Calls Tryz.prog 25 #[.pointer (some ⟨b, 0, none⟩), .agg #[.int .i64 4, .int .i64 0, .int .i64 0, .int .i64 0]] w1 (fun e w2 => e = .returned (errV ke) ∧ ∀ v', (v' = false → v = false ∧ ke = 0) → Mid w B b n r i (j + 1) v' w2))) := by
  obtain ⟨N, U, h1, h2, h3, h4, h5⟩ := h
  subst h3
  obtain ⟨m1, m2, m3, m4, m5, m6, m7, m8, _⟩ := h2.mesh h4 hi hj hij
  refine ⟨_, m2, ?_⟩
  have d1 := h1.do_ (sndE i j) ⟨by simp only [sndE]; omega, by simp only [sndE]; omega, by simp only [sndE]; omega, by simp only [sndE]; omega⟩
  rw [m1, show errV 0 = Value.nilIface from rfl] at d1
  refine Calls.mono d1 ?_
  rintro e w1 ⟨rfl, k1⟩
  refine ⟨rfl, k1.below, ?_⟩
  have d2 := k1.do_ dlv ⟨by decide, by decide, by decide, by decide⟩
  refine Calls.mono d2 ?_
  rintro e w2 ⟨rfl, k2⟩
  refine ⟨rfl, fun v' hv' => ⟨_, U, k2, m5, m4, m3, fun hv => ?_⟩⟩
  obtain ⟨z1, z2⟩ := hv' hv
  refine ⟨fun hr => ((h5 z1).1 hr).step h2 m5 m4 hi m6 (m8 z2), fun hr => ?_⟩
  exact ((h5 z1).2 hr).keep h2 m5 m4 m6
/-- What is said at the end. -/
theorem fin (h : Mid w B b n 2 0 0 false wr) : ∃ N, NSc w B b N wr ∧ N.sameB = true ∧ N.under.length = 0 := by
  obtain ⟨N, U, h1, h2, h3, h4, h5⟩ := h
  subst h3
  exact ⟨N, h1, h2.sameC ((h5 rfl).2 (by decide)), by rw [h4]; rfl⟩
end Mid
def L3 (w : World) (B b n : Nat) (f r : Value) (wr : World) : Prop := ∃ (v : Bool) (k : Nat), f = .bool v ∧ k ≤ 2 ∧ r = .int .i64 (k : Nat) ∧ Hid (Mid w B b n k 0 0 v wr)
def L4 (w : World) (B b n r : Nat) (f i : Value) (wr : World) : Prop := ∃ (v : Bool) (k : Nat), f = .bool v ∧ k ≤ n ∧ i = .int .i64 (k : Nat) ∧ Hid (Mid w B b n r k 0 v wr)
def L5 (w : World) (B b n r i : Nat) (f j : Value) (wr : World) : Prop := ∃ (v : Bool) (k : Nat), f = .bool v ∧ k ≤ n ∧ j = .int .i64 (k : Nat) ∧ Hid (Mid w B b n r i k v wr)
set_option maxRecDepth 100000 in
set_option maxHeartbeats 8000000 in
theorem walk (w : World) (n0 : Int) (A : Option Addr) (c : Nat) (l : List LEv) (hglob : Glob w) (h0 : -9223372036854775808 ≤ n0) (h1 : n0 ≤ 9223372036854775807) (hr : Reads w w.heap.size 4 A l.length (evcells l)) (hl : l.length ≤ 9223372036854775807) (hs : ∀ y ∈ l, y.Wf) :
    Calls Tryz.prog 4 #[.int .i64 n0, .slice A l.length c] w (CheckPost w (.bool true)) := by
  have HR := Lib.hid hr
  have HGL := Lib.hid hglob
  have HE4 := Lib.hid (errV_ne (show (4 : Int) ≠ 0 by decide))
  have HE1 := Lib.hid (errV_ne (show (1 : Int) ≠ 0 by decide))
  have HE0 : errV 0 = .nilIface := rfl
  have HER := Lib.hid (fun W k e (hb : Below w.heap.size w W) => error_any W k e (HGL.out.below hb (Nat.le_refl _)))
  have HWF := Lib.hid hs
  have HN2 := Lib.hid (nnew_any w 2 (by omega) (by omega))
  have HNN := Lib.hid (fun W => nnew_any W n0 h0 h1)
  unfold NNewPost at HNN
  have HF1 : Hid (∀ W b, NSc w w.heap.size b (LNet.new 2) W → Calls Tryz.prog 25 #[.pointer (some ⟨b, 0, none⟩), .agg #[.int .i64 1, .int .i64 0, .int .i64 0, .int .i64 104]] W (fun r w' => r = .returned .nilIface ∧ NSc w w.heap.size b factN w')) := fun W b hW => by
    have := hW.do_ factE ⟨by decide, by decide, by decide, by decide⟩
    rw [fact_0, HE0] at this
    exact this
  have HF2 : Hid (∀ W b, NSc w w.heap.size b factN W → Calls Tryz.prog 26 #[.pointer (some ⟨b, 0, none⟩)] W (fun r w' => r = .returned (.bool false) ∧ NSc w w.heap.size b factN w')) := fun W b hW => by
    have := hW.same
    rw [fact_1] at this
    exact this
  have HF3 : Hid (∀ W b, NSc w w.heap.size b factN W → Calls Tryz.prog 25 #[.pointer (some ⟨b, 0, none⟩), .agg #[.int .i64 3, .int .i64 0, .int .i64 1, .int .i64 0]] W (fun r w' => r = .returned .nilIface ∧ NSc w w.heap.size b (factN.do_ (sndE 0 1)) w')) := fun W b hW => by
    have := hW.do_ (sndE 0 1) ⟨by decide, by decide, by decide, by decide⟩
    rw [fact_2.1, HE0] at this
    exact this
  have HF4 : Hid (∀ W b, NSc w w.heap.size b (factN.do_ (sndE 0 1)) W → Calls Tryz.prog 25 #[.pointer (some ⟨b, 0, none⟩), .agg #[.int .i64 4, .int .i64 0, .int .i64 0, .int .i64 0]] W (fun r w' => r = .returned .nilIface ∧ NSc w w.heap.size b ((factN.do_ (sndE 0 1)).do_ dlv) w')) := fun W b hW => by
    have := hW.do_ dlv ⟨by decide, by decide, by decide, by decide⟩
    rw [fact_2.2.1, HE0] at this
    exact this
  have HF5 : Hid (∀ W b, NSc w w.heap.size b ((factN.do_ (sndE 0 1)).do_ dlv) W → Calls Tryz.prog 26 #[.pointer (some ⟨b, 0, none⟩)] W (fun r w' => r = .returned (.bool true) ∧ NSc w w.heap.size b ((factN.do_ (sndE 0 1)).do_ dlv) w')) := fun W b hW => by
    have := hW.same
    rw [fact_2.2.2] at this
    exact this
  clear hr hglob hs
  go_enter Tryz.func4, Tryz.ntmps4
  go_wp2_with fail
  refine HN2.out.mono ?_
  rintro e w1 (⟨_, b0, S0, rfl, hnet, hb⟩ | ⟨hh, _⟩)
  case inr => omega
  have HS1 := Lib.hid (NSc.make (w := w) (Below.refl _ _) (n := 2) (by decide) (by decide) hnet hb)
  clear hnet hb HN2
  go_wp2_with fail
  refine (HF1.out w1 b0 HS1.out).mono ?_
  rintro e w2 ⟨rfl, h2⟩
  have HS2 := Lib.hid h2
  clear h2 HS1
  go_wp2_with fail
  refine (HF2.out w2 b0 HS2.out).mono ?_
  rintro e w3 ⟨rfl, h3⟩
  have HS3 := Lib.hid h3
  clear h3 HS2
  go_wp2_with fail
  refine (HF3.out w3 b0 HS3.out).mono ?_
  rintro e w4 ⟨rfl, h4⟩
  have HS4 := Lib.hid h4
  clear h4 HS3
  go_wp2_with fail
  refine (HF4.out w4 b0 HS4.out).mono ?_
  rintro e w5 ⟨rfl, h5⟩
  have HS5 := Lib.hid h5
  clear h5 HS4
  go_wp2_with fail
  refine (HF5.out w5 b0 HS5.out).mono ?_
  rintro e w6 ⟨rfl, h6⟩
  have HB6 := Lib.hid h6.below
  clear h6 HS5 HF1 HF2 HF3 HF4 HF5
  go_wp2_with fail
  refine (HNN.out w6).mono ?_
  rintro e w7 (⟨⟨hn1, hn4⟩, b, S, rfl, hnet, hb⟩ | ⟨hbad, rfl, hb⟩)
  case inr =>
    have HB7 := Lib.hid (HB6.out.trans (hb.mono HB6.out.size))
    rw [HE1.out]
    clear hb HNN
    by_cases hlo : n0 < 1
    · go_wp2_with fail
      go_ret
      exact ⟨rfl, HB7.out⟩
    · have hhi : n0 > 4 := by omega
      go_wp2_with fail
      go_ret
      exact ⟨rfl, HB7.out⟩
  obtain ⟨n, rfl⟩ : ∃ n : Nat, n0 = (n : Int) := ⟨n0.toNat, by omega⟩
  rw [Int.toNat_natCast] at hnet
  have hm1 : 1 ≤ n := by omega
  have hm4 : n ≤ 4 := by omega
  have HS7 := Lib.hid (NSc.make (w := w) HB6.out hm1 hm4 hnet hb)
  have HFA := Lib.hid (Fair.new hm1 hm4)
  have HLN : Hid ((LNet.new n).docs.length = n) := by show _ = _; simp [LNet.new]
  obtain ⟨B, hB⟩ : ∃ B, B = w6.heap.size := ⟨_, rfl⟩
  rw [← hB] at HS7
  clear hnet hb HNN hB hn1 hn4 HB6
  go_upto_block 0 with (fail)
  go_cut [9] (fun _ wx => ∃ N U, Hid (NSc w B b N wx) ∧ Hid (Fair U N) ∧ Hid (N.docs.length = n))
  case first =>
    go_wp2_with fail
    go_loopw [9] (fun i wr => L1 w B b n i wr) (fun i _ => 60 - (intOf i).toNat)
    case atStart => exact ⟨0, _, _, by omega, rfl, HS7, HFA, HLN⟩
    case round =>
      obtain ⟨k, N, U, hk, rfl, HS, HF, HL⟩ := hrel
      have k0 : (0 : Int) ≤ (k : Int) := by omega
      by_cases hkl : k < l.length
      · have k1 : (k : Int) < (l.length : Int) := by omega
        by_cases hk6 : k < 60
        · have k2 : (k : Int) < 60 := by omega
          obtain ⟨ad, rfl, _, d0, d1, d2, d3⟩ := (HR.out.below HS.out.below).ev hkl
          have hwf := HWF.out _ (List.getElem_mem hkl)
          generalize l[k] = ev at *
          have HDO := Lib.hid (HS.out.do_ ev hwf)
          obtain ⟨V, hV, _⟩ := HF.out.do_ ev
          have HFV := Lib.hid hV
          have HL2 : Hid ((N.do_ ev).docs.length = n) := by show _ = _; rw [LNet.do_len, HL.out]
          generalize N.do_ ev = M at *
          generalize N.doE ev = ke at *
          obtain ⟨ew, ea, eb, ec⟩ := ev
          unfold LEv.cells at HDO
          simp only at d0 d1 d2 d3 HDO
          clear hwf hV
          go_wp2_with fail
          refine HDO.out.mono ?_
          rintro r w8 ⟨rfl, h8⟩
          have HS8 := Lib.hid h8
          clear h8 d0 d1 d2 d3
          go_wp2_with fail
          go_roundw
          case rel => exact ⟨k + 1, M, V, by omega, by go_num, HS8, HFV, HL2⟩
          case measure => simp [intOf]; omega
        · have k2 : ¬ (k : Int) < 60 := by omega
          go_wp2_with fail
          go_meet
          case rel => exact ⟨N, U, HS, HF, HL⟩
      · have k1 : ¬ (k : Int) < (l.length : Int) := by omega
        go_wp2_with fail
        go_meet
        case rel => exact ⟨N, U, HS, HF, HL⟩
  case rest =>
    obtain ⟨N, U, HS, HF, HL⟩ := hcut
    clear HS7 HFA HLN HR HWF
    go_upto_block 2 with (fail)
    go_cut [10] (fun f wx => ∃ v, f = .bool v ∧ Hid (Mid w B b n 0 0 0 v wx))
    case first =>
      go_wp2_with fail
      go_loopg [10] N.under.length (fun k f wr => L2 w B b n k f wr)
      case atStart => exact ⟨false, N, U, rfl, HS, HF, HL, rfl⟩
      case round =>
        obtain ⟨v, N1, U1, rfl, HS1, HF1, HL1, hun⟩ := hrel
        have HUN := Lib.hid HS1.out.under
        have hul : N1.under.length ≤ 100 := HS1.out.ok.under
        have HLU := Lib.hid hun
        clear hun
        by_cases hpos : 0 < N1.under.length
        · have g1 : (N1.under.length : Int) > 0 := by omega
          obtain ⟨f1, f2, f3, f4⟩ := HF1.out.first hpos
          have HDO := Lib.hid (HS1.out.do_ dlv ⟨by decide, by decide, by decide, by decide⟩)
          unfold LEv.cells at HDO
          have HF2 := Lib.hid f2
          have HL2 : Hid ((N1.do_ dlv).docs.length = n) := by show _ = _; rw [f4, HL1.out]
          have HU2 := Lib.hid f3
          have HKE := Lib.hid f1
          generalize N1.do_ dlv = M at *
          generalize N1.doE dlv = ke at *
          have HPOS := Lib.hid hpos
          clear f1 f2 f3 f4 hpos
          generalize N1.under.length = ul at *
          go_wp2_with fail
          refine HUN.out.mono ?_
          rintro r w8 ⟨rfl, hw8⟩
          obtain rfl := hw8.symm
          go_wp2_with fail
          refine HDO.out.mono ?_
          rintro r w9 ⟨rfl, h9⟩
          have HS9 := Lib.hid h9
          clear h9
          cases v with
          | true =>
            go_wp2_with fail
            go_roundg M.under.length
            case measure => have := HU2.out; have := HLU.out; have := HPOS.out; omega
            case rel => exact ⟨true, M, U1, rfl, HS9, HF2, HL2, rfl⟩
          | false =>
            have HR1 := Lib.hid (HER.out w9 ke 4 HS9.out.below)
            go_wp2_with fail
            refine HR1.out.mono ?_
            rintro r w10 ⟨rfl, hb⟩
            have HS10 := Lib.hid (HS9.out.step hb)
            clear hb
            generalize (ke == 4) = v2
            cases v2 with
            | true =>
              go_wp2_with fail
              go_roundg M.under.length
              case measure => have := HU2.out; have := HLU.out; have := HPOS.out; omega
              case rel => exact ⟨true, M, U1, rfl, HS10, HF2, HL2, rfl⟩
            | false =>
              go_wp2_with fail
              go_roundg M.under.length
              case measure => have := HU2.out; have := HLU.out; have := HPOS.out; omega
              case rel => exact ⟨false, M, U1, rfl, HS10, HF2, HL2, rfl⟩
        · have g1 : ¬ (N1.under.length : Int) > 0 := by omega
          have HM := Lib.hid (Mid.start HS1.out HF1.out HL1.out (List.eq_nil_of_length_eq_zero (by omega)) v)
          clear hpos
          generalize N1.under.length = ul at *
          go_wp2_with fail
          refine HUN.out.mono ?_
          rintro r w8 ⟨rfl, hw8⟩
          obtain rfl := hw8.symm
          go_wp2_with fail
          go_meet
          case rel => exact ⟨v, rfl, HM⟩
    case rest =>
      obtain ⟨v, rfl, HM⟩ := hcut
      clear HS HF HL
      go_upto_block 4 with (fail)
      go_cut [10, 12] (fun f _ wx => ∃ v, f = .bool v ∧ Hid (Mid w B b n 2 0 0 v wx))
      case first =>
        go_wp2_with fail
        go_loopw [10, 12] (fun f r wr => L3 w B b n f r wr) (fun _ r _ => 2 - (intOf r).toNat)
        case atStart => exact ⟨v, 0, rfl, by omega, rfl, HM⟩
        case round =>
          obtain ⟨v1, r, rfl, hr, rfl, HM1⟩ := hrel
          have r0 : (0 : Int) ≤ (r : Int) := by omega
          by_cases hr2 : r < 2
          · have r1 : (r : Int) < 2 := by omega
            go_upto_block 5 with (fail)
            go_cut [10, 13] (fun f _ wx => ∃ v, f = .bool v ∧ Hid (Mid w B b n (r + 1) 0 0 v wx))
            case first =>
              go_wp2_with fail
              go_loopw [10, 13] (fun f i wr => L4 w B b n r f i wr) (fun _ i _ => n - (intOf i).toNat)
              case atStart => exact ⟨v1, 0, rfl, by omega, rfl, HM1⟩
              case round =>
                obtain ⟨v2, i, rfl, hi, rfl, HM2⟩ := hrel
                have i0 : (0 : Int) ≤ (i : Int) := by omega
                by_cases hin : i < n
                · have i1 : (i : Int) < (n : Int) := by omega
                  go_upto_block 7 with (fail)
                  go_cut [10, 14] (fun f _ wx => ∃ v, f = .bool v ∧ Hid (Mid w B b n r (i + 1) 0 v wx))
                  case first =>
                    go_wp2_with fail
                    go_loopw [10, 14] (fun f j wr => L5 w B b n r i f j wr) (fun _ j _ => n - (intOf j).toNat)
                    case atStart => exact ⟨v2, 0, rfl, by omega, rfl, HM2⟩
                    case round =>
                      obtain ⟨v3, j, rfl, hj, rfl, HM3⟩ := hrel
                      have j0 : (0 : Int) ≤ (j : Int) := by omega
                      by_cases hjn : j < n
                      · have j1 : (j : Int) < (n : Int) := by omega
                        by_cases hij : i = j
                        · have g2 : ((i : Int) == (j : Int)) = true := by simp [hij]
                          have HM4 : Hid (Mid w B b n r i (j + 1) v3 wr) := by
                            have := HM3.out
                            rw [← hij] at this ⊢
                            exact this.same
                          clear hij
                          go_wp2_with fail
                          go_roundw
                          case rel => exact ⟨v3, j + 1, rfl, by omega, by go_num, HM4⟩
                          case measure => simp [intOf]; omega
                        · have g2 : ((i : Int) == (j : Int)) = false := by simp; omega
                          obtain ⟨ke, hke, hcal⟩ := HM3.out.mesh hin hjn hij hm4
                          have HKE := Lib.hid hke
                          have HCA := Lib.hid hcal
                          clear hij hke hcal
                          go_wp2_with fail
                          refine HCA.out.mono ?_
                          rintro e w8 ⟨rfl, hd⟩
                          have HD := Lib.hid hd.out.2
                          clear hd HCA
                          go_wp2_with fail
                          refine HD.out.mono ?_
                          rintro e w9 ⟨rfl, hm9⟩
                          have HM9 := Lib.hid hm9
                          have HB9 : Hid (Below w.heap.size w w9) := (hm9 true (fun hh => by cases hh)).below
                          clear hm9 HD
                          rcases HKE.out with hk | hk
                          · subst hk
                            rw [HE0]
                            cases v3 with
                            | true =>
                              have HM4 := Lib.hid (HM9.out true (fun hh => by cases hh))
                              go_wp2_with fail
                              go_roundw
                              case rel => exact ⟨true, j + 1, rfl, by omega, by go_num, HM4⟩
                              case measure => simp [intOf]; omega
                            | false =>
                              have HR1 := Lib.hid (HER.out w9 0 4 HB9.out)
                              rw [HE0, show ((0 : Int) == 4) = false from rfl] at HR1
                              have HM4 := Lib.hid (HM9.out false (fun _ => ⟨rfl, rfl⟩))
                              go_wp2_with fail
                              refine HR1.out.mono ?_
                              rintro e w10 ⟨rfl, hb⟩
                              have HM5 := Lib.hid (HM4.out.step hb)
                              clear hb
                              go_wp2_with fail
                              go_roundw
                              case rel => exact ⟨false, j + 1, rfl, by omega, by go_num, HM5⟩
                              case measure => simp [intOf]; omega
                          · subst hk
                            have HM4 := Lib.hid (HM9.out true (fun hh => by cases hh))
                            have HR1 := Lib.hid (HER.out w9 4 4 HB9.out)
                            rw [show ((4 : Int) == 4) = true from rfl] at HR1
                            rw [HE4.out] at HR1 ⊢
                            cases v3 with
                            | true =>
                              go_wp2_with fail
                              go_roundw
                              case rel => exact ⟨true, j + 1, rfl, by omega, by go_num, HM4⟩
                              case measure => simp [intOf]; omega
                            | false =>
                              go_wp2_with fail
                              refine HR1.out.mono ?_
                              rintro e w10 ⟨rfl, hb⟩
                              have HM5 := Lib.hid (HM4.out.step hb)
                              clear hb
                              go_wp2_with fail
                              go_roundw
                              case rel => exact ⟨true, j + 1, rfl, by omega, by go_num, HM5⟩
                              case measure => simp [intOf]; omega
                      · have j1 : ¬ (j : Int) < (n : Int) := by omega
                        have HM4 : Hid (Mid w B b n r (i + 1) 0 v3 wr) := by
                          have hje : j = n := by omega
                          have := HM3.out
                          rw [hje] at this
                          exact this.row
                        go_wp2_with fail
                        go_meet
                        case rel => exact ⟨v3, rfl, HM4⟩
                  case rest =>
                    obtain ⟨v3, rfl, HM3⟩ := hcut
                    go_wp2_with fail
                    go_roundw
                    case rel => exact ⟨v3, i + 1, rfl, by omega, by go_num, HM3⟩
                    case measure => simp [intOf]; omega
                · have i1 : ¬ (i : Int) < (n : Int) := by omega
                  have HM4 : Hid (Mid w B b n (r + 1) 0 0 v2 wr) := by
                    have hie : i = n := by omega
                    have := HM2.out
                    rw [hie] at this
                    exact this.round
                  go_wp2_with fail
                  go_meet
                  case rel => exact ⟨v2, rfl, HM4⟩
            case rest =>
              obtain ⟨v2, rfl, HM2⟩ := hcut
              go_wp2_with fail
              go_roundw
              case rel => exact ⟨v2, r + 1, rfl, by omega, by go_num, HM2⟩
              case measure => simp [intOf]; omega
          · have r1 : ¬ (r : Int) < 2 := by omega
            have HM4 : Hid (Mid w B b n 2 0 0 v1 wr) := by
              have hre : r = 2 := by omega
              have := HM1.out
              rw [hre] at this
              exact this
            go_wp2_with fail
            go_meet
            case rel => exact ⟨v1, rfl, HM4⟩
      case rest =>
        obtain ⟨v1, rfl, HM1⟩ := hcut
        cases v1 with
        | true =>
          have HB1 := Lib.hid HM1.out.below
          go_wp2_with fail
          go_ret
          exact ⟨rfl, HB1.out⟩
        | false =>
          obtain ⟨N1, HS1, hs1, hu1⟩ := HM1.out.fin
          have HSA := Lib.hid HS1.same
          rw [hs1] at HSA
          have HUN := Lib.hid (fun W (hW : NSc w B b N1 W) => hW.under)
          rw [hu1] at HUN
          clear hs1 hu1
          go_wp2_with fail
          refine HSA.out.mono ?_
          rintro e w8 ⟨rfl, h8⟩
          have HU := Lib.hid (HUN.out w8 h8)
          have HB8 := Lib.hid h8.below
          clear h8
          go_wp2_with fail
          refine HU.out.mono ?_
          rintro e w9 ⟨rfl, hw9⟩
          obtain rfl := hw9.symm
          go_wp2_with fail
          go_ret
          exact ⟨rfl, HB8.out⟩
end lawNetMeets
end Go.Proofs.YtkaccnegdmpofaaGreatDoor
/- From a walk to a given statement: one theorem that serves every law of the seat. Conditions: none of our own. -/
namespace Go.Proofs.YtkaccnegdmpofaaGreatDoor
open Go.RowKit Go.WideShapes Go.ChangeShapes Go.ChangeAt
set_option linter.unusedVariables false

section
variable {H : Type} {enc : TypeId × Value → H} {P : Program}

theorem post_of_below {f : Func} {s : ChangeSpec} {apart fresh handsOn again : Bool} {W W' : World} {args : Array Value} {v : Value} {ds gs : List (DataW H)} {before pa pv : List MemPlace}
    (hW : DataW.Whole enc P f.params.toList s.vars apart W args.toList ds gs before)
    (hres : ∀ (b : Nat) (sp : Nat → Bool) (hd : Bool), DataW.TrodAll enc P W' b sp hd f.resultTypes.toList (v.resultList f.resultTypes.size) (s.fn H (ds ++ gs)).results [])
    (hargs : ∀ sp : Nat → Bool, (∀ p ∈ before, sp p.block = true) → DataW.TrodAll enc P W' 0 sp true f.params.toList args.toList (s.fn H (ds ++ gs)).args pa)
    (hvars : ∀ sp : Nat → Bool, (∀ p ∈ before, sp p.block = true) → DataW.TrodVars enc P W' sp s.vars (s.fn H (ds ++ gs)).vars pv)
    (hps : before = pa ++ pv) (hb : Below W.heap.size W W')
    (hok : ∀ (j : Nat) (t : TypeId) (r : Value), f.resultTypes[j]? = some t → (v.resultList f.resultTypes.size)[j]? = some r → Value.okWide P W' .any 0 t r) :
    s.post enc P f apart fresh handsOn again W args v W' := by
  have hlt : ∀ p ∈ before, p.block < W.heap.size := fun p hp => hW.lt p hp
  have hold : ∀ p ∈ before, (fun b => decide (b < W.heap.size)) p.block = true := fun p hp => by simpa using hlt p hp
  refine ⟨ds, gs, before, [], pa, pv, hW, hres _ _ _, hargs _ hold, hvars _ hold, World.keptBut_mono (fun p hp => ⟨hp, ?_⟩) (hb.frame (· ∈ before)), fun _ => ?_⟩
  · rw [hps, List.mem_append] at hp
    exact Or.inr hp
  · obtain ⟨_, _, _, _, _, hz, hn⟩ := hW
    refine ⟨hok, _, _, ([] ++ pa) ++ pv, ⟨[] ++ pa, pv, trodAll_append (hargs _ (fun _ _ => rfl)) (hres _ _ _), hvars _ (fun _ _ => rfl), rfl, ?_, ?_⟩, ?_⟩
    · intro b off hp
      have hin : MemPlace.cell b off ∈ before := by rw [hps]; simpa using hp
      rw [hb.frozen (hlt _ hin)]
      exact hz b off hin
    · intro ha
      have := hn ha
      rw [hps] at this
      simpa using this
    · intro p hp _
      rw [hps]
      simpa using hp

theorem trodAll_below (hl : laidOutB P = true) {W W' : World} (hb : Below W.heap.size W W') {sp : Nat → Bool} :
    ∀ (ts : List TypeId) (vs : List Value) (ds : List (DataW H)) (ps : List MemPlace), (∀ t ∈ ts, P.readableRec t = true ∧ t < P.types.size) → (∀ p ∈ ps, p.block < W.heap.size) → (∀ p ∈ ps, sp p.block = true) →
      DataW.TrodAll enc P W 0 (fun _ => true) true ts vs ds ps → DataW.TrodAll enc P W' 0 sp true ts vs ds ps := by
  intro ts
  induction ts with
  | nil => intro vs ds ps _ _ _ h; cases vs <;> cases ds <;> simp_all [DataW.TrodAll]
  | cons t ts ih =>
    intro vs ds ps ht hlt hs h
    cases vs with
    | nil => simp [DataW.TrodAll] at h
    | cons v vs =>
      cases ds with
      | nil => simp [DataW.TrodAll] at h
      | cons d ds =>
        obtain ⟨p, q, h1, h2, rfl⟩ := h
        exact ⟨p, q, WideElems.Trod_stays hl (ht t (by simp)).1 (ht t (by simp)).2 h1 (fun x hx => hb.same (hlt x (by simp [hx]))) (fun x hx => hs x (by simp [hx])),
          ih vs ds q (fun t' h' => ht t' (by simp [h'])) (fun x hx => hlt x (by simp [hx])) (fun x hx => hs x (by simp [hx])) h2, rfl⟩

/-- A law: it answered true, and nothing that was there has turned. -/
theorem law_post (hl : laidOutB P = true) {f : Func} {s : ChangeSpec} {apart fresh handsOn again : Bool} {tb : TypeId} {W W' : World} {args : Array Value} {ds gs : List (DataW H)} {before : List MemPlace}
    (hr : f.resultTypes = #[tb]) (htb : P.underlying tb = some .bool) (hp : ∀ t ∈ f.params.toList, P.readableRec t = true ∧ t < P.types.size) (hv : s.vars = [])
    (hfn : s.fn H ds = { results := [.lit (.bool true)], args := ds })
    (hW : DataW.Whole enc P f.params.toList s.vars apart W args.toList ds gs before) (hb : Below W.heap.size W W') :
    s.post enc P f apart fresh handsOn again W args (.bool true) W' := by
  have hW' := hW
  obtain ⟨p, q, hA, hV, hpq, hfz, hnd⟩ := hW
  have hlt : ∀ x ∈ before, x.block < W.heap.size := fun x hx => hW'.lt x hx
  rw [hv] at hV
  obtain ⟨hgs, hq⟩ := trodVars_none hV
  subst hgs; subst hq
  simp only [List.append_nil] at hpq
  subst hpq
  refine post_of_below (pa := before) (pv := []) hW' ?_ ?_ ?_ (by simp) hb ?_
  · intro b sp hd
    rw [List.append_nil, hfn, hr]
    exact trodAll_mk1 (shut_bool htb _)
  · intro sp hs
    rw [List.append_nil, hfn]
    exact trodAll_below hl hb _ _ _ _ hp hlt hs hA
  · intro sp hs
    rw [List.append_nil, hfn, hv]
    exact rfl
  · exact ok_one hr rfl (okWide_bool_mk htb _)
end

theorem Tryz.own : ownKnob Tryz.prog.godebug = none := by kernel_rfl
theorem Tryz.laidOut : laidOutB Tryz.prog = true := by kernel_rfl
end Go.Proofs.YtkaccnegdmpofaaGreatDoor
/- From a walk to a tied card: what serves every law of a seat whose rows list the library's one variable. Conditions: none of our own. (After the guide's worked toy on errors.As.) -/
namespace Go.Proofs.YtkaccnegdmpofaaGreatDoor
open Go.ChangeShapes Go.WideShapes Go.RowKit
set_option linter.unusedVariables false
namespace Card

/-- What the rows list. -/
def laid : List (String × DataW Unit) := [("errors.errorType", Rows.laid_errors_errorType)]
theorem et : Tryz.prog.globalNamed "errors.errorType" = some 1 := by kernel_rfl
theorem rt : (Tryz.prog.cutTypes.find? (·.1 == "internal/reflectlite.rtype")).map (·.2) = some 257 := by kernel_rfl
theorem oneRow : ((List.range Tryz.prog.types.size).filter fun t => Tryz.prog.rowNamed t [101, 114, 114, 111, 114]) = [26] := by kernel_rfl
theorem handle : typeHandle Tryz.prog 26 = .pointer (some ⟨2, 26, none⟩) := by kernel_rfl
/-- What the condition gives a walk: the variable's one cell. -/
theorem glob_of_laid {W : World} (h : laidMetH Tryz.prog laid W) : Glob W := by
  have h' : laidMet Tryz.prog [] W ∧ handlesMet Tryz.prog laid W := h
  obtain ⟨name, u, ty, e1, e2, e3, e4, e5⟩ := h'.2 _ (List.mem_singleton.2 rfl)
  have en : name = [101, 114, 114, 111, 114] := (Option.some.inj e1).symm
  subst en
  obtain rfl := Option.some.inj (rt.symm.trans e2)
  have hm : ty ∈ (List.range Tryz.prog.types.size).filter fun t => Tryz.prog.rowNamed t [101, 114, 114, 111, 114] := List.mem_filter.2 ⟨List.mem_range.2 e3, e4⟩
  rw [oneRow] at hm
  obtain rfl := List.mem_singleton.1 hm
  rw [handle] at e5
  unfold Glob
  simpa using World.var?_cell et e5 0
/-- A world that meets the condition: the settled one, the variable's cell laid. -/
noncomputable def laidWorld (os : Os) : World :=
  let w0 := World.holding Tryz.prog os ⟨#[], #[], []⟩
  { w0 with heap := w0.heap.modify 1 fun
      | .cells _ t frozen => .cells #[.iface 257 (.agg #[.pointer (some ⟨2, 26, none⟩)])] t frozen
      | o => o }
theorem laidWorld_met (os : Os) (args : Array Value) : laidMetH Tryz.prog laid ((laidWorld os).forCall (fun _ _ => 0) ⟨#[], args, []⟩).memory :=
  laidMetH_of_parts (laidMet_nil _ _) (by kernel_rfl)
end Card
end Go.Proofs.YtkaccnegdmpofaaGreatDoor
/- leaflaw3.NetMeets, proved: whatever was lost, late or doubled, when each has sent to each, and all has come, all have the same book, and what was under way ahead does not matter any more. Conditions: the library's one variable holds what its text lays (the card ties it). -/
namespace Go.Proofs.YtkaccnegdmpofaaGreatDoor
open Go.RowKit Go.WideShapes Go.ChangeShapes Go.ChangeAt
set_option linter.unusedVariables false
namespace lawNetMeets
set_option maxRecDepth 100000 in
theorem lifted (os : Os) (started : os.Started) (H : Type) (enc : TypeId × Value → H) :
    ReturnsInHanded {} Tryz.checked os 4 .any (fun w args => (Rows.netMeetsSpec.pre enc Tryz.prog Tryz.f4 [] false w args ∧ laidMetH Tryz.prog Card.laid w) ∧ sizedMet enc Tryz.prog Tryz.f4 (OpenSpec.ofChange Rows.netMeetsSpec) false w args)
      (Rows.netMeetsSpec.post enc Tryz.prog Tryz.f4 false true false false) := by
  refine returnsInHanded_of_change_and (C := Tryz.checked) (X := fun w _ => laidMetH Tryz.prog Card.laid w) (fun _ _ _ hh h => h.of_heap hh) Tryz.own started (by kernel_rfl) Tryz.func4
    (ChangeSpec.witness_at (enc := enc) (C := Tryz.checked) (os := os) (X := fun w _ => laidMetH Tryz.prog Card.laid w) false (Card.laidWorld os) #[.int .i64 0, .slice none 0 0] 8 rfl (by kernel_rfl) (by kernel_rfl) (by kernel_rfl) (by kernel_rfl) (by kernel_rfl) (Card.laidWorld_met os _)) ?_
  intro W base args ds gs before hval0 hW _ hsz0 hL _
  have hval : ∀ (j : Nat) t v, Tryz.f4.params[j]? = some t → args[j]? = some v → Value.okWide Tryz.prog W .any base t v := hval0
  obtain ⟨p, q, hA0, _⟩ := id hW
  have hA : DataW.TrodAll enc Tryz.prog W 0 (fun _ => true) true Tryz.f4.params.toList args.toList ds p := hA0
  have hsz : (DataW.weightsEach Tryz.prog (Tryz.f4.params.toList ++ Rows.netMeetsSpec.plain.varTypes Tryz.prog) (ds ++ gs)).all (· ≤ reachBytes) = true := hsz0
  rw [Tryz.params4] at hA hval hsz
  obtain ⟨v0, v1, d0, d1, p0, p1, rfl, rfl, rfl, h0, h1⟩ := trodAll_two hA
  obtain ⟨a0, rfl, rfl, rfl, wa0⟩ := open_int Tryz.underlying3 (hval 0 3 v0 rfl rfl) h0
  obtain ⟨A1, c1, l1, rfl, r1, g1, lc1, cm1⟩ := arg_events (hval 1 57 v1 rfl rfl) h1
  refine (walk W a0 A1 c1 l1 (Card.glob_of_laid hL) (i64_of_wf wa0).1 (i64_of_wf wa0).2 r1 (by unfold maxLen at cm1; omega) g1).mono fun e W' ⟨he, hb⟩ => ⟨_, he, ?_⟩
  exact law_post Tryz.laidOut (tb := 4) (by kernel_rfl) Tryz.underlying4 (by rw [Tryz.params4]; simp only [List.mem_cons, List.not_mem_nil, or_false]; rintro t (rfl | rfl) <;> exact ⟨by kernel_rfl, of_decide_eq_true (by kernel_rfl)⟩) rfl rfl hW hb

theorem holds : Rows.NetMeetsSaid :=
  OpenClaim.holds_of_wide 4 Tryz.f4 rfl rfl rfl rfl rfl rfl rfl ⟨rfl, rfl, rfl, rfl, rfl⟩ rfl rfl rfl rfl rfl (by kernel_rfl) Tryz.func4 (by kernel_rfl)
    (of_decide_eq_true (by kernel_rfl)) (by unfold Func.isWrapper; first | (rw [if_pos (by decide +kernel)]; kernel_rfl) | (rw [if_neg (by decide +kernel)]; exact ⟨rfl, rfl⟩))
    (fun os started H enc _ => lifted os started H enc)
theorem noStand : ∀ t ∈ Tryz.f4.params.toList, Tryz.prog.wantsStandIn t = false := by
  rw [Tryz.params4]
  simp only [List.mem_cons, List.not_mem_nil, or_false]
  rintro t (rfl | rfl) <;> kernel_rfl
theorem card_holds : Rows.NetMeetsCardSaid :=
  Claim7.holds_tied_plain_at .later [] [.handle] true Rows.netMeetsCard.stood.harness true
    holds (fun _ h => by cases h) (by kernel_rfl) (fun _ h => by cases h) netMeets_row_tie rfl ⟨rfl, rfl⟩ (by kernel_rfl) rfl
    (fun f fn hf hfn => by
      obtain rfl : f = 4 := Option.some.inj ((show Tryz.prog.funcNamed Rows.netMeetsRow.func = some 4 by kernel_rfl).symm.trans hf) |>.symm
      obtain rfl : fn = Tryz.f4 := (Option.some.inj (Tryz.func4.symm.trans hfn)).symm
      exact ⟨by kernel_rfl, fun j t ht => noStand t (by
        have := Array.mem_of_getElem? ht
        simpa using this)⟩)
    (by kernel_rfl)
#print axioms card_holds
end lawNetMeets
end Go.Proofs.YtkaccnegdmpofaaGreatDoor

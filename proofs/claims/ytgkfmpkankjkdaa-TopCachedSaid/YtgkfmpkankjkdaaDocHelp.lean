/- 5 texts in one: each says ahead of itself what is proved, and its conditions. -/
import Derived.Test.YtgkfmpkankjkdaaBook
import Derived.Test.YtgkfmpkankjkdaaDocRead
import Derived.Test.YtgkfmpkankjkdaaMark
import Derived.Test.YtgkfmpkankjkdaaSame0
import Derived.Test.YtgkfmpkankjkdaaVec
/- (*doc.Doc).Ops, walked: a copy, its own down to the dots. Conditions: the document is right. -/
namespace Go.Proofs.Ytgkfmpkankjkdaa
open Go.RowKit
set_option linter.unusedVariables false
theorem Own.storeN {w : World} {B : Nat} {e : TypeId} {g n c size : Nat} {xs : List Value} (h : Own w B e size (some ⟨g, 0, none⟩) n c xs) {k : Nat} (hk : k < n * size) (u : Value) : Own (w.setCell ⟨g, k, none⟩ u) B e size (some ⟨g, 0, none⟩) n c (xs.set k u) := by
  obtain ⟨h1, h2⟩ := h
  refine ⟨by rw [List.length_set]; exact h1, ?_⟩
  rcases h2 with ⟨h2, _⟩ | ⟨g', cap, cur, e1, e2, e3, e4, e5, e6, e7⟩
  · cases h2
  · injection e1 with e1 _ ec
    injection e1 with e1
    injection e1 with e1
    subst e1 ec
    refine .inr ⟨g, c, cur.setIfInBounds k u, rfl, e2, Blk.set_ (t := e) e3 k u, e4, e5, by simpa using e6, ?_⟩
    rw [Array.toList_setIfInBounds, ← e7, List.take_set]
theorem ocells_set (l : List OpAt) (k : Nat) (hk : k < l.length) (V : Option Addr) (c : Nat) : (ocells l).set (k * 6 + 5) (.slice V l[k].op.seen.length c) = ocells (l.set k ⟨l[k].op, V, c⟩) := by
  apply List.ext_getElem?
  intro i
  by_cases hi : i < l.length * 6
  · have hd : i / 6 < l.length := by omega
    have hi2 : i = i / 6 * 6 + i % 6 := by omega
    rw [List.getElem?_set]
    have hl2 : (l.set k ⟨l[k].op, V, c⟩).length = l.length := by simp
    have e2 := ocells_at (l.set k ⟨l[k].op, V, c⟩) (i / 6) (i % 6) (by rw [hl2]; exact hd) (by omega)
    rw [← hi2] at e2
    have e1 := ocells_at l (i / 6) (i % 6) hd (by omega)
    rw [← hi2] at e1
    rw [e2, List.getElem_set]
    by_cases hk2 : k = i / 6
    · subst hk2
      rw [if_pos rfl]
      by_cases hm : i / 6 * 6 + 5 = i
      · rw [if_pos hm, if_pos (by rw [ocells_len]; omega), show i % 6 = 5 by omega]
        rfl
      · rw [if_neg hm, e1]
        have : i % 6 = 0 ∨ i % 6 = 1 ∨ i % 6 = 2 ∨ i % 6 = 3 ∨ i % 6 = 4 := by omega
        rcases this with h | h | h | h | h <;> rw [h] <;> rfl
    · rw [if_neg hk2, if_neg (by omega), e1]
  · rw [List.getElem?_eq_none (by rw [List.length_set, ocells_len]; omega), List.getElem?_eq_none (by rw [ocells_len]; simp; omega)]
/-- A list of ops that is the call's own, with the dots of each. -/
structure OwnOps (w : World) (B : Nat) (V : Option Addr) (c : Nat) (zs : List OpAt) : Prop where
  row : Own w B 35 6 V zs.length c (ocells zs)
  seen : ∀ z ∈ zs, Own w B 32 2 z.at_ z.op.seen.length z.cap (dcells z.op.seen)
def OpsPost (w : World) (l : List LOp) (e : Ending) (w' : World) : Prop := ∃ V c zs, e = .returned (.slice V l.length c) ∧ zs.map OpAt.op = l ∧ OwnOps w' w.heap.size V c zs ∧ Below w.heap.size w w'
/-- Midway through the copy. -/
structure OpsMid (w : World) (V : Option Addr) (c : Nat) (ys zs : List OpAt) (k : Nat) (wr : World) : Prop where
  below : Below w.heap.size w wr
  row : Own wr w.heap.size 35 6 V zs.length c (ocells zs)
  len : zs.length = ys.length
  same : zs.map OpAt.op = ys.map OpAt.op
  done : ∀ j (hj : j < zs.length), j < k → Own wr w.heap.size 32 2 zs[j].at_ zs[j].op.seen.length zs[j].cap (dcells zs[j].op.seen)
  todo : ∀ j (hj : j < zs.length) (hj2 : j < ys.length), k ≤ j → zs[j] = ys[j]
def OpsLoop (w : World) (V : Option Addr) (c : Nat) (ys : List OpAt) (i : Value) (wr : World) : Prop := ∃ k : Nat, ∃ zs, k ≤ ys.length ∧ i = .int .i64 k ∧ Hid (OpsMid w V c ys zs k wr)
theorem OpsMid.step {w wr w3 : World} {g c : Nat} {ys zs : List OpAt} {k : Nat} (h : OpsMid w (some ⟨g, 0, none⟩) c ys zs k wr) (hk : k < ys.length) (hb : Below wr.heap.size wr w3) {V2 : Option Addr} {c2 : Nat} (hk2 : k < zs.length)
    (hO : Own w3 wr.heap.size 32 2 V2 zs[k].op.seen.length c2 (dcells zs[k].op.seen)) :
    OpsMid w (some ⟨g, 0, none⟩) c ys (zs.set k ⟨zs[k].op, V2, c2⟩) (k + 1) (w3.setCell ⟨g, k * 6 + 5, none⟩ (.slice V2 zs[k].op.seen.length c2)) := by
  have hsz := h.below.size
  have hg := h.row.lt g (by simp [ob])
  have hrow3 := h.row.below hb
  have ho : Only [g] w3 (w3.setCell ⟨g, k * 6 + 5, none⟩ (.slice V2 zs[k].op.seen.length c2)) := (Only.refl _ _).setCell (.inl (by simp)) _
  have hbk : ∃ cs, Blk w3 g 35 cs := by
    rcases hrow3.2 with ⟨h2, _⟩ | ⟨g', cap, cur, he, _, hh, _⟩
    · cases h2
    · injection he with he
      injection he with he
      injection he with he
      subst he
      exact ⟨cur, hh⟩
  obtain ⟨cs, hbk⟩ := hbk
  refine ⟨?_, ?_, by simpa using h.len, ?_, ?_, ?_⟩
  · have h1 := h.below.trans (hb.mono hsz)
    exact h1.trans (ho.below h1.size (by simpa using hg.1))
  · have := hrow3.storeN (k := k * 6 + 5) (by omega) (.slice V2 zs[k].op.seen.length c2)
    rw [ocells_set zs k hk2 V2 c2] at this
    simpa using this
  · rw [← h.same, List.map_set]
    apply List.ext_getElem?
    intro i
    rw [List.getElem?_set]
    by_cases hi : k = i
    · subst hi; simp [hk2]
    · rw [if_neg hi]
  · intro j hj hjk
    have hj' : j < zs.length := by simpa using hj
    by_cases hkj : k = j
    · subst hkj
      have e : (zs.set k ⟨zs[k].op, V2, c2⟩)[k] = ⟨zs[k].op, V2, c2⟩ := by simp
      rw [e]
      exact (hO.only ho (fun x hx hm => hO.blk_ne hbk (by decide) (by simp at hm; exact hm ▸ hx))).mono hsz
    · have e : (zs.set k ⟨zs[k].op, V2, c2⟩)[j] = zs[j] := by rw [List.getElem_set, if_neg hkj]
      rw [e]
      have h1 := (h.done j hj' (by omega)).below hb
      exact h1.only ho (fun x hx hm => h1.blk_ne hbk (by decide) (by simp at hm; exact hm ▸ hx))
  · intro j hj hj2 hkj
    have e : (zs.set k ⟨zs[k].op, V2, c2⟩)[j] = zs[j]'(by simpa using hj) := by rw [List.getElem_set, if_neg (by omega)]
    rw [e]
    exact h.todo j (by simpa using hj) hj2 (by omega)
end Go.Proofs.Ytgkfmpkankjkdaa
/- leafsame.Marks, walked. Conditions: few elements. -/
namespace Go.Proofs.Ytgkfmpkankjkdaa
open Go.RowKit
set_option linter.unusedVariables false
namespace SameMarks
instance dec : DecidableEq LMark := fun a b => by
  obtain ⟨a0, a1, a2⟩ := a
  obtain ⟨b0, b1, b2⟩ := b
  simp only [LMark.mk.injEq, LDot.mk.injEq]
  exact inferInstance
set_option maxRecDepth 100000 in
theorem eq_one (W : World) (x0 y0 : ByteArray) (x1 y1 : Int) (x2 y2 : Int) : (Op.equalIn 10000 82 (.agg #[.string x0, .int .i64 x1, .int .i64 x2]) (.agg #[.string y0, .int .i64 y1, .int .i64 y2])).run Try.prog W = .ok (x0.toList == y0.toList && (x1 == y1 && (x2 == y2))) W := by
  have ui := Try.underlying3
  have us := Try.underlying9
  have hDD : ∀ (a b c d : Int) (W : World), (Op.equalIn 9999 32 (.agg #[.int .i64 a, .int .i64 b]) (.agg #[.int .i64 c, .int .i64 d])).run Try.prog W = .ok (a == c && b == d) W := fun a b c d W => by
    have hD : Try.prog.underlying 32 = some (.struct (Try.prog.fieldsOf 32)) := by kernel_rfl
    have hpD : Try.prog.stoodInHeld 32 = false := by kernel_rfl
    rw [show (9999 : Nat) = 9998 + 1 from rfl, run_equalIn_agg W 9998 32 _ _ hD hpD]
    simp only [Program.fieldsOf, Try.underlying32]
    clear hD hpD
    go_simp
    by_cases h1 : a = c <;> by_cases h2 : b = d <;> simp [h1, h2]
  have haD := Try.isAgg32
  have hS : Try.prog.underlying 82 = some (.struct (Try.prog.fieldsOf 82)) := by kernel_rfl
  have hp : Try.prog.stoodInHeld 82 = false := by kernel_rfl
  rw [show (10000 : Nat) = 9999 + 1 from rfl, run_equalIn_agg W 9999 82 _ _ hS hp]
  simp only [Program.fieldsOf, Try.underlying82]
  go_simp
  by_cases h0 : x0.toList = y0.toList <;> by_cases h1 : x1 = y1 <;> by_cases h2 : x2 = y2 <;> simp [h0, h1, h2]
theorem same_one {x0 y0 : ByteArray} {x1 y1 : Int} {x2 y2 : Int} : (x0.toList == y0.toList && (x1 == y1 && (x2 == y2))) = decide ((⟨x0, ⟨x1, x2⟩⟩ : LMark) = ⟨y0, ⟨y1, y2⟩⟩) := by
  rw [Bool.eq_iff_iff]
  simp only [Bool.and_eq_true, beq_iff_eq, decide_eq_true_eq, LMark.mk.injEq, LDot.mk.injEq, same_toList]
def Loop (w : World) (l m : List LMark) (i : Value) (wr : World) : Prop :=
  ∃ k : Nat, k ≤ l.length ∧ i = .int .i64 k ∧ Hid (Below w.heap.size w wr) ∧ Hid (decide (l = m) = decide (l.drop k = m.drop k))
end SameMarks
end Go.Proofs.Ytgkfmpkankjkdaa
/- leafsame.Leafs, walked. Conditions: few elements. -/
namespace Go.Proofs.Ytgkfmpkankjkdaa
open Go.RowKit
set_option linter.unusedVariables false
namespace SameLeafs
instance dec : DecidableEq LLeaf := fun a b => by
  cases a; cases b
  simp only [LLeaf.mk.injEq]
  exact inferInstance
set_option maxRecDepth 100000 in
theorem eq_one (W : World) (x0 y0 : ByteArray) (x1 y1 : Int) (x2 y2 : Bool) : (Op.equalIn 10000 79 (.agg #[.string x0, .int .i64 x1, .bool x2]) (.agg #[.string y0, .int .i64 y1, .bool y2])).run Try.prog W = .ok (x0.toList == y0.toList && (x1 == y1 && (x2 == y2))) W := by
  have ub := Try.underlying4
  have ui := Try.underlying3
  have us := Try.underlying9
  have hS : Try.prog.underlying 79 = some (.struct (Try.prog.fieldsOf 79)) := by kernel_rfl
  have hp : Try.prog.stoodInHeld 79 = false := by kernel_rfl
  rw [show (10000 : Nat) = 9999 + 1 from rfl, run_equalIn_agg W 9999 79 _ _ hS hp]
  simp only [Program.fieldsOf, Try.underlying79]
  go_simp
  by_cases h0 : x0.toList = y0.toList <;> by_cases h1 : x1 = y1 <;> by_cases h2 : x2 = y2 <;> simp [h0, h1, h2]
theorem same_one {x0 y0 : ByteArray} {x1 y1 : Int} {x2 y2 : Bool} : (x0.toList == y0.toList && (x1 == y1 && (x2 == y2))) = decide ((⟨x0, x1, x2⟩ : LLeaf) = ⟨y0, y1, y2⟩) := by
  rw [Bool.eq_iff_iff]
  simp only [Bool.and_eq_true, beq_iff_eq, decide_eq_true_eq, LLeaf.mk.injEq, same_toList]
def Loop (w : World) (l m : List LLeaf) (i : Value) (wr : World) : Prop :=
  ∃ k : Nat, k ≤ l.length ∧ i = .int .i64 k ∧ Hid (Below w.heap.size w wr) ∧ Hid (decide (l = m) = decide (l.drop k = m.drop k))
end SameLeafs
end Go.Proofs.Ytgkfmpkankjkdaa
/- leafsame.Ints, walked. Conditions: few elements. -/
namespace Go.Proofs.Ytgkfmpkankjkdaa
open Go.RowKit
set_option linter.unusedVariables false
namespace SameInts
theorem Reads.int {w : World} {B : Nat} {A : Option Addr} {l : List Int} (h : Reads w B 1 A l.length (ints l)) {k : Nat} (hk : k < l.length) : ∃ ad, A = some ad ∧ ad.block < B ∧ w.cell? (ad.add k) = some (.int .i64 l[k]) := by
  obtain ⟨ad, u, e, hb, hu, hc⟩ := h.at_ hk
  have hu' : u = .int .i64 l[k] := by simpa [ints, hk] using hu.symm
  exact ⟨ad, e, hb, by rw [hc, hu']⟩
def Loop (w : World) (l m : List Int) (i : Value) (wr : World) : Prop :=
  ∃ k : Nat, k ≤ l.length ∧ i = .int .i64 k ∧ Hid (Below w.heap.size w wr) ∧ Hid (decide (l = m) = decide (l.drop k = m.drop k))
end SameInts
end Go.Proofs.Ytgkfmpkankjkdaa
/- Rows of ops: their parts; rows that a step leaves as they are. Plain lemmas. Conditions: none. -/
namespace Go.Proofs.Ytgkfmpkankjkdaa
open Go.RowKit
set_option linter.unusedVariables false
theorem ocells_app (a b : List OpAt) : ocells (a ++ b) = ocells a ++ ocells b := by simp [ocells]
theorem ocells_take (l : List OpAt) (k : Nat) (hk : k ≤ l.length) : (ocells l).take (k * 6) = ocells (l.take k) := by
  have h := ocells_app (l.take k) (l.drop k)
  rw [List.take_append_drop] at h
  rw [h, List.take_append_of_le_length (by rw [ocells_len, List.length_take]; omega), List.take_of_length_le (by rw [ocells_len, List.length_take]; omega)]
theorem ocells_drop (l : List OpAt) (k : Nat) (hk : k ≤ l.length) : (ocells l).drop (k * 6) = ocells (l.drop k) := by
  have h := ocells_app (l.take k) (l.drop k)
  rw [List.take_append_drop] at h
  have e : (ocells (l.take k)).length = k * 6 := by rw [ocells_len, List.length_take]; omega
  rw [h, ← e, List.drop_left]
theorem Reads.front {w : World} {B : Nat} {A : Option Addr} {l : List OpAt} (h : Reads w B 6 A l.length (ocells l)) {k : Nat} (hk : k ≤ l.length) : Reads w B 6 A k (ocells (l.take k)) := by
  refine ⟨by rw [ocells_len, List.length_take]; congr 1; omega, fun hn => ?_⟩
  obtain ⟨ad, e, hb, hc⟩ := h.2 (by omega)
  refine ⟨ad, e, hb, fun j u hu => hc j u ?_⟩
  rw [← ocells_take l k hk, List.getElem?_take] at hu
  by_cases hj : j < k * 6
  · rw [if_pos hj] at hu; exact hu
  · rw [if_neg hj] at hu; cases hu
theorem Reads.back {w : World} {B : Nat} {A : Option Addr} {l : List OpAt} (h : Reads w B 6 A l.length (ocells l)) {k c : Nat} (hk : k ≤ l.length) (hc : l.length ≤ c) : Reads w B 6 (if c = k then A else A.map (·.add (k * 6))) (l.length - k) (ocells (l.drop k)) := by
  have := h.cut hk hc
  rw [ocells_drop l k hk] at this
  exact this
theorem own_far {w w' : World} {T : List Nat} {N0 : Nat} {e : TypeId} {size n c : Nat} {A : Option Addr} {xs : List Value} (h : Own w N0 e size A n c xs) (ho : Only T w w') (hT : ∀ g ∈ T, g < N0 ∨ w.heap.size ≤ g) : Own w' N0 e size A n c xs :=
  h.only ho (fun g hg hm => by have := h.lt g hg; have := hT g hm; omega)
theorem ops_far {w w' : World} {T : List Nat} {N0 : Nat} {V : Option Addr} {c : Nat} {zs : List OpAt} (h : OwnOps w N0 V c zs) (ho : Only T w w') (hT : ∀ g ∈ T, g < N0 ∨ w.heap.size ≤ g) : OwnOps w' N0 V c zs :=
  ⟨own_far h.row ho hT, fun z hz => own_far (h.seen z hz) ho hT⟩
theorem ops_below {w w' : World} {N0 : Nat} {V : Option Addr} {c : Nat} {zs : List OpAt} (h : OwnOps w N0 V c zs) (hb : Below w.heap.size w w') : OwnOps w' N0 V c zs := ⟨h.row.below hb, fun z hz => (h.seen z hz).below hb⟩
theorem reads_op (W : World) (y : OpAt) : Reads (W.alloc (.cells (y.op.cells y.at_ y.cap) 35)) (W.heap.size + 1) 6 (some ⟨W.heap.size, 0, none⟩) 1 (ocells [y]) := by
  have h := Reads.row W 35 (y.op.cells y.at_ y.cap)
  have e : ocells [y] = (y.op.cells y.at_ y.cap).toList := by simp [ocells, OpAt.cells]
  rw [e]
  exact h
namespace LDoc
theorem apply_three {d : LDoc} (o : LOp) : (d.applyB o = true ∧ d.applyE o = 0 ∧ (d.apply o).ops = d.ops ++ [o]) ∨ (d.applyB o = false ∧ d.applyE o = 0 ∧ d.apply o = d) ∨ (d.applyE o ≠ 0 ∧ d.applyB o = false ∧ d.apply o = d) := by
  by_cases h : d.applyB o = true
  · have he : d.applyE o = 0 := by
      unfold applyB at h
      rw [Bool.and_eq_true, decide_eq_true_iff] at h
      exact h.1
    exact .inl ⟨h, he, by unfold apply; rw [if_pos h]⟩
  · have hb : d.applyB o = false := by simpa using h
    have ha : d.apply o = d := by unfold apply; rw [hb]; rfl
    by_cases he : d.applyE o = 0
    · exact .inr (.inl ⟨hb, he, ha⟩)
    · exact .inr (.inr ⟨he, hb, ha⟩)
end LDoc
end Go.Proofs.Ytgkfmpkankjkdaa

/- 4 texts in one: each says ahead of itself what is proved, and its conditions. -/
import Derived.Test.YtngalkmmpjegkaaBook
import Derived.Test.YtngalkmmpjegkaaDocOps
import Derived.Test.YtngalkmmpjegkaaMark
import Derived.Test.YtngalkmmpjegkaaSame0
import Derived.Test.YtngalkmmpjegkaaVec
/- leafsame.Marks, walked. Conditions: few elements. -/
namespace Go.Proofs.Ytngalkmmpjegkaa
open Go.RowKit
set_option linter.unusedVariables false
namespace SameMarks
instance dec : DecidableEq LMark := fun a b => by
  obtain ⟨a0, a1, a2⟩ := a
  obtain ⟨b0, b1, b2⟩ := b
  simp only [LMark.mk.injEq, LDot.mk.injEq]
  exact inferInstance
set_option maxRecDepth 100000 in
theorem eq_one (W : World) (x0 y0 : ByteArray) (x1 y1 : Int) (x2 y2 : Int) : (Op.equalIn 10000 113 (.agg #[.string x0, .int .i64 x1, .int .i64 x2]) (.agg #[.string y0, .int .i64 y1, .int .i64 y2])).run Try.prog W = .ok (x0.toList == y0.toList && (x1 == y1 && (x2 == y2))) W := by
  have ui := Try.underlying3
  have us := Try.underlying9
  have hDD : ∀ (a b c d : Int) (W : World), (Op.equalIn 9999 35 (.agg #[.int .i64 a, .int .i64 b]) (.agg #[.int .i64 c, .int .i64 d])).run Try.prog W = .ok (a == c && b == d) W := fun a b c d W => by
    have hD : Try.prog.underlying 35 = some (.struct (Try.prog.fieldsOf 35)) := by kernel_rfl
    have hpD : Try.prog.stoodInHeld 35 = false := by kernel_rfl
    rw [show (9999 : Nat) = 9998 + 1 from rfl, run_equalIn_agg W 9998 35 _ _ hD hpD]
    simp only [Program.fieldsOf, Try.underlying35]
    clear hD hpD
    go_simp
    by_cases h1 : a = c <;> by_cases h2 : b = d <;> simp [h1, h2]
  have haD := Try.isAgg35
  have hS : Try.prog.underlying 113 = some (.struct (Try.prog.fieldsOf 113)) := by kernel_rfl
  have hp : Try.prog.stoodInHeld 113 = false := by kernel_rfl
  rw [show (10000 : Nat) = 9999 + 1 from rfl, run_equalIn_agg W 9999 113 _ _ hS hp]
  simp only [Program.fieldsOf, Try.underlying113]
  go_simp
  by_cases h0 : x0.toList = y0.toList <;> by_cases h1 : x1 = y1 <;> by_cases h2 : x2 = y2 <;> simp [h0, h1, h2]
theorem same_one {x0 y0 : ByteArray} {x1 y1 : Int} {x2 y2 : Int} : (x0.toList == y0.toList && (x1 == y1 && (x2 == y2))) = decide ((⟨x0, ⟨x1, x2⟩⟩ : LMark) = ⟨y0, ⟨y1, y2⟩⟩) := by
  rw [Bool.eq_iff_iff]
  simp only [Bool.and_eq_true, beq_iff_eq, decide_eq_true_eq, LMark.mk.injEq, LDot.mk.injEq, same_toList]
def Loop (w : World) (l m : List LMark) (i : Value) (wr : World) : Prop :=
  ∃ k : Nat, k ≤ l.length ∧ i = .int .i64 k ∧ Hid (Below w.heap.size w wr) ∧ Hid (decide (l = m) = decide (l.drop k = m.drop k))
end SameMarks
end Go.Proofs.Ytngalkmmpjegkaa
/- leafsame.Leafs, walked. Conditions: few elements. -/
namespace Go.Proofs.Ytngalkmmpjegkaa
open Go.RowKit
set_option linter.unusedVariables false
namespace SameLeafs
instance dec : DecidableEq LLeaf := fun a b => by
  cases a; cases b
  simp only [LLeaf.mk.injEq]
  exact inferInstance
set_option maxRecDepth 100000 in
theorem eq_one (W : World) (x0 y0 : ByteArray) (x1 y1 : Int) (x2 y2 : Bool) : (Op.equalIn 10000 78 (.agg #[.string x0, .int .i64 x1, .bool x2]) (.agg #[.string y0, .int .i64 y1, .bool y2])).run Try.prog W = .ok (x0.toList == y0.toList && (x1 == y1 && (x2 == y2))) W := by
  have ub := Try.underlying4
  have ui := Try.underlying3
  have us := Try.underlying9
  have hS : Try.prog.underlying 78 = some (.struct (Try.prog.fieldsOf 78)) := by kernel_rfl
  have hp : Try.prog.stoodInHeld 78 = false := by kernel_rfl
  rw [show (10000 : Nat) = 9999 + 1 from rfl, run_equalIn_agg W 9999 78 _ _ hS hp]
  simp only [Program.fieldsOf, Try.underlying78]
  go_simp
  by_cases h0 : x0.toList = y0.toList <;> by_cases h1 : x1 = y1 <;> by_cases h2 : x2 = y2 <;> simp [h0, h1, h2]
theorem same_one {x0 y0 : ByteArray} {x1 y1 : Int} {x2 y2 : Bool} : (x0.toList == y0.toList && (x1 == y1 && (x2 == y2))) = decide ((⟨x0, x1, x2⟩ : LLeaf) = ⟨y0, y1, y2⟩) := by
  rw [Bool.eq_iff_iff]
  simp only [Bool.and_eq_true, beq_iff_eq, decide_eq_true_eq, LLeaf.mk.injEq, same_toList]
def Loop (w : World) (l m : List LLeaf) (i : Value) (wr : World) : Prop :=
  ∃ k : Nat, k ≤ l.length ∧ i = .int .i64 k ∧ Hid (Below w.heap.size w wr) ∧ Hid (decide (l = m) = decide (l.drop k = m.drop k))
end SameLeafs
end Go.Proofs.Ytngalkmmpjegkaa
/- leafsame.Ints, walked. Conditions: few elements. -/
namespace Go.Proofs.Ytngalkmmpjegkaa
open Go.RowKit
set_option linter.unusedVariables false
namespace SameInts
theorem Reads.int {w : World} {B : Nat} {A : Option Addr} {l : List Int} (h : Reads w B 1 A l.length (ints l)) {k : Nat} (hk : k < l.length) : ∃ ad, A = some ad ∧ ad.block < B ∧ w.cell? (ad.add k) = some (.int .i64 l[k]) := by
  obtain ⟨ad, u, e, hb, hu, hc⟩ := h.at_ hk
  have hu' : u = .int .i64 l[k] := by simpa [ints, hk] using hu.symm
  exact ⟨ad, e, hb, by rw [hc, hu']⟩
def Loop (w : World) (l m : List Int) (i : Value) (wr : World) : Prop :=
  ∃ k : Nat, k ≤ l.length ∧ i = .int .i64 k ∧ Hid (Below w.heap.size w wr) ∧ Hid (decide (l = m) = decide (l.drop k = m.drop k))
end SameInts
end Go.Proofs.Ytngalkmmpjegkaa
/- Rows of ops: their parts; rows that a step leaves as they are. Plain lemmas. Conditions: none. -/
namespace Go.Proofs.Ytngalkmmpjegkaa
open Go.RowKit
set_option linter.unusedVariables false
theorem ocells_app (a b : List OpAt) : ocells (a ++ b) = ocells a ++ ocells b := by simp [ocells]
theorem ocells_take (l : List OpAt) (k : Nat) (hk : k ≤ l.length) : (ocells l).take (k * 6) = ocells (l.take k) := by
  have h := ocells_app (l.take k) (l.drop k)
  rw [List.take_append_drop] at h
  rw [h, List.take_append_of_le_length (by rw [ocells_len, List.length_take]; omega), List.take_of_length_le (by rw [ocells_len, List.length_take]; omega)]
theorem ocells_drop (l : List OpAt) (k : Nat) (hk : k ≤ l.length) : (ocells l).drop (k * 6) = ocells (l.drop k) := by
  have h := ocells_app (l.take k) (l.drop k)
  rw [List.take_append_drop] at h
  have e : (ocells (l.take k)).length = k * 6 := by rw [ocells_len, List.length_take]; omega
  rw [h, ← e, List.drop_left]
theorem Reads.front {w : World} {B : Nat} {A : Option Addr} {l : List OpAt} (h : Reads w B 6 A l.length (ocells l)) {k : Nat} (hk : k ≤ l.length) : Reads w B 6 A k (ocells (l.take k)) := by
  refine ⟨by rw [ocells_len, List.length_take]; congr 1; omega, fun hn => ?_⟩
  obtain ⟨ad, e, hb, hc⟩ := h.2 (by omega)
  refine ⟨ad, e, hb, fun j u hu => hc j u ?_⟩
  rw [← ocells_take l k hk, List.getElem?_take] at hu
  by_cases hj : j < k * 6
  · rw [if_pos hj] at hu; exact hu
  · rw [if_neg hj] at hu; cases hu
theorem Reads.back {w : World} {B : Nat} {A : Option Addr} {l : List OpAt} (h : Reads w B 6 A l.length (ocells l)) {k c : Nat} (hk : k ≤ l.length) (hc : l.length ≤ c) : Reads w B 6 (if c = k then A else A.map (·.add (k * 6))) (l.length - k) (ocells (l.drop k)) := by
  have := h.cut hk hc
  rw [ocells_drop l k hk] at this
  exact this
theorem own_far {w w' : World} {T : List Nat} {N0 : Nat} {e : TypeId} {size n c : Nat} {A : Option Addr} {xs : List Value} (h : Own w N0 e size A n c xs) (ho : Only T w w') (hT : ∀ g ∈ T, g < N0 ∨ w.heap.size ≤ g) : Own w' N0 e size A n c xs :=
  h.only ho (fun g hg hm => by have := h.lt g hg; have := hT g hm; omega)
theorem ops_far {w w' : World} {T : List Nat} {N0 : Nat} {V : Option Addr} {c : Nat} {zs : List OpAt} (h : OwnOps w N0 V c zs) (ho : Only T w w') (hT : ∀ g ∈ T, g < N0 ∨ w.heap.size ≤ g) : OwnOps w' N0 V c zs :=
  ⟨own_far h.row ho hT, fun z hz => own_far (h.seen z hz) ho hT⟩
theorem ops_below {w w' : World} {N0 : Nat} {V : Option Addr} {c : Nat} {zs : List OpAt} (h : OwnOps w N0 V c zs) (hb : Below w.heap.size w w') : OwnOps w' N0 V c zs := ⟨h.row.below hb, fun z hz => (h.seen z hz).below hb⟩
theorem reads_op (W : World) (y : OpAt) : Reads (W.alloc (.cells (y.op.cells y.at_ y.cap) 38)) (W.heap.size + 1) 6 (some ⟨W.heap.size, 0, none⟩) 1 (ocells [y]) := by
  have h := Reads.row W 38 (y.op.cells y.at_ y.cap)
  have e : ocells [y] = (y.op.cells y.at_ y.cap).toList := by simp [ocells, OpAt.cells]
  rw [e]
  exact h
namespace LDoc
theorem apply_three {d : LDoc} (o : LOp) : (d.applyB o = true ∧ d.applyE o = 0 ∧ (d.apply o).ops = d.ops ++ [o]) ∨ (d.applyB o = false ∧ d.applyE o = 0 ∧ d.apply o = d) ∨ (d.applyE o ≠ 0 ∧ d.applyB o = false ∧ d.apply o = d) := by
  by_cases h : d.applyB o = true
  · have he : d.applyE o = 0 := by
      unfold applyB at h
      rw [Bool.and_eq_true, decide_eq_true_iff] at h
      exact h.1
    exact .inl ⟨h, he, by unfold apply; rw [if_pos h]⟩
  · have hb : d.applyB o = false := by simpa using h
    have ha : d.apply o = d := by unfold apply; rw [hb]; rfl
    by_cases he : d.applyE o = 0
    · exact .inr (.inl ⟨hb, he, ha⟩)
    · exact .inr (.inr ⟨he, hb, ha⟩)
end LDoc
end Go.Proofs.Ytngalkmmpjegkaa

/- 3 texts in one: each says ahead of itself what is proved, and its conditions. -/
import Derived.ChangeArms
import Derived.ChangeSame
import Derived.ChangeSlices
import Derived.Deep.Slices
import Derived.Lib.Bytealg
import Derived.Shelf.Small.Strs
import Derived.Test.YthfbjfocmnikaaaGreatDoorProg
import Derived.WideShapes
import Derived.Test.YthfbjfocmnikaaaGreatDoorMem
import Derived.Test.YthfbjfocmnikaaaGreatDoorPlaceCheck
/- Arguments opened: a slice of whatever elements as a list, a struct's fields. Plain lemmas. Conditions: none of our own. -/
namespace Go.Proofs.YthfbjfocmnikaaaGreatDoor
open Go.RowKit Go.WideShapes Go.ChangeShapes Go.Deep
set_option linter.unusedVariables false

theorem flat_len_of {α : Type} {f : α → List Value} {size : Nat} (hf : ∀ y, (f y).length = size) (l : List α) : (l.flatMap f).length = l.length * size := by
  induction l with
  | nil => simp
  | cons y l ih => simp only [List.flatMap_cons, List.length_append, hf, ih, List.length_cons, Nat.add_mul]; omega
theorem flat_at {α : Type} {f : α → List Value} {size : Nat} (hf : ∀ y, (f y).length = size) (hs : 0 < size) (l : List α) (j : Nat) : (l.flatMap f)[j]? = (l[j / size]?).bind fun y => (f y)[j % size]? := by
  induction l generalizing j with
  | nil => simp
  | cons y l ih =>
    rw [List.flatMap_cons]
    by_cases hj : j < size
    · rw [List.getElem?_append_left (by rw [hf]; exact hj), Nat.div_eq_of_lt hj, Nat.mod_eq_of_lt hj]
      simp
    · rw [List.getElem?_append_right (by rw [hf]; omega), hf, ih]
      have e1 : j / size = (j - size) / size + 1 := by rw [Nat.div_eq_sub_div hs (by omega)]
      have e2 : j % size = (j - size) % size := by rw [Nat.mod_eq_sub_mod (by omega)]
      rw [e1, e2]
      simp
theorem lt_of_cell {w : World} {p : Addr} {u : Value} (h : w.cell? p = some u) : p.block < w.heap.size := by
  rcases Nat.lt_or_ge p.block w.heap.size with h1 | h1
  · exact h1
  · simp [World.cell?, Array.getElem?_eq_none h1] at h

section
variable {H : Type} {enc : TypeId × Value → H} {P : Program} {w : World} {base : Nat} {spare : Nat → Bool} {held : Bool}

theorem open_list {α : Type} [Inhabited α] {t e : TypeId} {size fuel : Nat} {cs : List Value} {x : DataW H × List MemPlace} (f : α → List Value) (good : α → Prop) (ht : P.underlying t = some (.slice e)) (hC : P.cellsOf e = size) (hs : 0 < size)
    (hf : ∀ y, (f y).length = size) (hel : ∀ n cs x, DataW.trod enc P w base spare held n e cs = some x → ∃ y, cs = f y ∧ good y) (h : DataW.trod enc P w base spare held fuel t cs = some x) :
    ∃ (A : Option Addr) (cap : Nat) (l : List α), cs = [.slice A l.length cap] ∧ Reads w w.heap.size size A l.length (l.flatMap f) ∧ (∀ y ∈ l, good y) ∧ l.length ≤ cap ∧ cap ≤ maxLen := by
  rcases open_slice ht h with ⟨rfl, _⟩ | ⟨a, len, cap, m, n, D, Pl, rfl, hb, hl, hm, hmm, _, hx⟩
  · exact ⟨none, 0, [], rfl, Reads.none_, by simp, Nat.le_refl _, by simp [maxLen]⟩
  · have hle : len ≤ m := by rw [hmm]; split <;> omega
    obtain ⟨Y, hY⟩ := choose_lt (α := α) (n := len) (p := fun i y => good y ∧ w.cells? base (a.add (i * size)) size = some (f y)) (fun i hi => by
      obtain ⟨cs', h1, h2⟩ := hx i (by omega)
      obtain ⟨y, rfl, hg⟩ := hel _ _ _ h2
      rw [hC] at h1
      exact ⟨y, hg, h1⟩)
    have hlen : ((List.range len).map Y).length = len := by simp
    have hcell : ∀ j u, (((List.range len).map Y).flatMap f)[j]? = some u → w.cell? (a.add j) = some u := by
      intro j u hu
      rw [flat_at hf hs] at hu
      obtain ⟨y, hy, hu⟩ := Option.bind_eq_some_iff.1 hu
      have hjl : j / size < len := by
        have := (List.getElem?_eq_some_iff.1 hy).1
        simpa using this
      have hyY : y = Y (j / size) := by
        rw [List.getElem?_map, List.getElem?_range hjl] at hy
        simpa using hy.symm
      subst hyY
      obtain ⟨_, hc⟩ := hY _ hjl
      obtain ⟨_, _, hat⟩ := World.cells?_some hc
      have := hat (j % size) (Nat.mod_lt _ hs)
      rw [Go.Deep.add_add, Nat.mul_comm, Nat.div_add_mod] at this
      rw [this, hu]
    refine ⟨some a, cap, (List.range len).map Y, by rw [hlen], ⟨flat_len_of hf _, fun hn => ⟨a, rfl, ?_, hcell⟩⟩, ?_, by rw [hlen]; exact hl, hm⟩
    · rw [hlen] at hn
      have h0 := hcell 0
      rw [flat_at hf hs] at h0
      have e0 : ((List.range len).map Y)[0 / size]? = some (Y 0) := by rw [Nat.zero_div, List.getElem?_map, List.getElem?_range hn]; rfl
      rw [e0] at h0
      have hz : 0 < (f (Y 0)).length := by rw [hf]; exact hs
      have := lt_of_cell (h0 _ (by simp; exact List.getElem?_eq_getElem hz))
      rwa [block_of_add] at this
    · intro y hy
      obtain ⟨i, hi, rfl⟩ := List.mem_map.1 hy
      exact (hY i (List.mem_range.1 hi)).1

theorem trod_len {t : TypeId} {fs : Array Field} {fuel : Nat} {cs : List Value} {x : DataW H × List MemPlace} (ht : P.underlying t = some (.struct fs)) (h : DataW.trod enc P w base spare held fuel t cs = some x) : cs.length = P.cellsOf t := by
  obtain ⟨xs, n, _, _, hl, _⟩ := DataW.trod_struct ht h
  exact hl
theorem trod_field {t : TypeId} {fs : Array Field} {fuel : Nat} {cs : List Value} {x : DataW H × List MemPlace} (ht : P.underlying t = some (.struct fs)) (h : DataW.trod enc P w base spare held fuel t cs = some x)
    (i : Nat) (fd : Field) (hi : fs[i]? = some fd) (k : Nat) (hk : P.cellsOf fd.type = k) : ∃ n y, DataW.trod enc P w base spare held n fd.type ((cs.drop fd.offset).take k) = some y := by
  obtain ⟨xs, n, _, _, _, hlen, hg⟩ := DataW.trod_struct ht h
  have hlt : i < xs.length := by rw [hlen]; exact (Array.getElem?_eq_some_iff.1 hi).1
  subst hk
  exact ⟨n, xs[i], (hg i fd hi).trans (List.getElem?_eq_getElem hlt)⟩
end
/-- A number that an int holds. -/
def I64 (n : Int) : Prop := -9223372036854775808 ≤ n ∧ n ≤ 9223372036854775807
theorem i64_of_wf {n : Int} (h : (Lit.int .i64 n).wf = true) : I64 n := by
  simp only [Lit.wf, Bool.and_eq_true, decide_eq_true_eq] at h
  exact h
end Go.Proofs.YthfbjfocmnikaaaGreatDoor
/- The order of texts: plain lemmas. Conditions: none. -/
namespace Go.Proofs.YthfbjfocmnikaaaGreatDoor
set_option linter.unusedVariables false

theorem less_asymm' : ∀ (x y : List UInt8), Op.bytesLess x y = true → Op.bytesLess y x = false := by
  intro x
  induction x with
  | nil => intro y h; cases y <;> simp [Op.bytesLess] at h ⊢
  | cons a x ih =>
    intro y h
    cases y with
    | nil => simp [Op.bytesLess] at h
    | cons b y =>
      simp only [Op.bytesLess, Bool.or_eq_true, Bool.and_eq_true, decide_eq_true_eq, beq_iff_eq, Bool.or_eq_false_iff, Bool.and_eq_false_iff, decide_eq_false_iff_not, beq_eq_false_iff_ne, UInt8.lt_iff_toNat_lt] at h ⊢
      rcases h with h | ⟨rfl, h⟩
      · refine ⟨by omega, .inl (fun h2 => ?_)⟩
        subst h2; omega
      · exact ⟨by omega, .inr (ih y h)⟩
theorem less_trans : ∀ (x y z : List UInt8), Op.bytesLess x y = true → Op.bytesLess y z = true → Op.bytesLess x z = true := by
  intro x
  induction x with
  | nil => intro y z h1 h2; cases z <;> cases y <;> simp [Op.bytesLess] at h1 h2 ⊢
  | cons a x ih =>
    intro y z h1 h2
    cases y with
    | nil => simp [Op.bytesLess] at h1
    | cons b y =>
      cases z with
      | nil => simp [Op.bytesLess] at h2
      | cons c z =>
        simp only [Op.bytesLess, Bool.or_eq_true, Bool.and_eq_true, decide_eq_true_eq, beq_iff_eq, UInt8.lt_iff_toNat_lt] at h1 h2 ⊢
        rcases h1 with h1 | ⟨rfl, h1⟩ <;> rcases h2 with h2 | ⟨rfl, h2⟩
        · exact .inl (by omega)
        · exact .inl h1
        · exact .inl h2
        · exact .inr ⟨rfl, ih y z h1 h2⟩
theorem less_irrefl' (x : List UInt8) : Op.bytesLess x x = false := by
  cases h : Op.bytesLess x x
  · rfl
  · rw [less_asymm' x x h] at h; cases h
theorem less_total' : ∀ (x y : List UInt8), Op.bytesLess x y = false → x ≠ y → Op.bytesLess y x = true := by
  intro x
  induction x with
  | nil => intro y h h2; cases y <;> simp [Op.bytesLess] at h h2
  | cons a x ih =>
    intro y h h2
    cases y with
    | nil => simp [Op.bytesLess]
    | cons b y =>
      simp only [Op.bytesLess, Bool.or_eq_true, Bool.and_eq_true, decide_eq_true_eq, beq_iff_eq, Bool.or_eq_false_iff, Bool.and_eq_false_iff, decide_eq_false_iff_not, beq_eq_false_iff_ne, UInt8.lt_iff_toNat_lt] at h ⊢
      obtain ⟨h3, h4⟩ := h
      by_cases hab : a = b
      · subst hab
        refine .inr ⟨rfl, ih y ?_ (fun h => h2 (by rw [h]))⟩
        rcases h4 with h4 | h4
        · exact absurd rfl h4
        · exact h4
      · refine .inl ?_
        have : a.toNat ≠ b.toNat := fun h => hab (UInt8.toNat_inj.1 h)
        omega
theorem cmp_less_iff : ∀ (a b : List UInt8), Lib.compareBytes a b < 0 ↔ Op.bytesLess a b = true := by
  intro a
  induction a with
  | nil => intro b; cases b <;> simp [Lib.compareBytes, Op.bytesLess]
  | cons x a ih =>
    intro b
    cases b with
    | nil => simp [Lib.compareBytes, Op.bytesLess]
    | cons y b =>
      simp only [Op.bytesLess, Bool.or_eq_true, Bool.and_eq_true, decide_eq_true_eq, beq_iff_eq]
      have e : Lib.compareBytes (x :: a) (y :: b) = if x < y then -1 else if y < x then 1 else Lib.compareBytes a b := rfl
      rw [e]
      by_cases h1 : x < y
      · rw [if_pos h1]; simp [h1]
      · rw [if_neg h1]
        by_cases h2 : y < x
        · rw [if_pos h2]
          have hne : x ≠ y := by rintro rfl; rw [UInt8.lt_iff_toNat_lt] at h2; omega
          simp [h1, hne]
        · rw [if_neg h2]
          have : x = y := by
            apply UInt8.toNat_inj.1
            rw [UInt8.lt_iff_toNat_lt] at h1 h2
            omega
          subst this
          rw [ih]
          simp [h1]
theorem cmp_less (a b : List UInt8) : decide (Lib.compareBytes a b < 0) = Op.bytesLess a b := by
  rw [Bool.eq_iff_iff, decide_eq_true_iff]
  exact cmp_less_iff a b
theorem cmp_zero : ∀ (a b : List UInt8), (Lib.compareBytes a b == 0) = (a == b) := by
  intro a
  induction a with
  | nil => intro b; cases b <;> simp [Lib.compareBytes]
  | cons x a ih =>
    intro b
    cases b with
    | nil => simp [Lib.compareBytes]
    | cons y b =>
      simp only [Lib.compareBytes]
      by_cases h1 : x < y
      · rw [if_pos h1]
        have hne : x ≠ y := by rintro rfl; rw [UInt8.lt_iff_toNat_lt] at h1; omega
        simp [hne]
      · rw [if_neg h1]
        by_cases h2 : y < x
        · rw [if_pos h2]
          have hne : x ≠ y := by rintro rfl; rw [UInt8.lt_iff_toNat_lt] at h2; omega
          simp [hne]
        · rw [if_neg h2]
          have : x = y := by
            apply UInt8.toNat_inj.1
            rw [UInt8.lt_iff_toNat_lt] at h1 h2
            omega
          subst this
          rw [ih]
          simp
theorem cmp_range : ∀ (a b : List UInt8), -1 ≤ Lib.compareBytes a b ∧ Lib.compareBytes a b ≤ 1 := by
  intro a
  induction a with
  | nil => intro b; cases b <;> simp [Lib.compareBytes]
  | cons x a ih =>
    intro b
    cases b with
    | nil => simp [Lib.compareBytes]
    | cons y b =>
      simp only [Lib.compareBytes]
      split
      · omega
      · split
        · omega
        · exact ih b
end Go.Proofs.YthfbjfocmnikaaaGreatDoor
/- strings.Compare. (Written by the kit's shelf tools in their plain mode; cut and turned to names.) Conditions: stated with each. -/
namespace Go.Proofs
open Go.Shelf Go.RowKit Go.Lib
def Tryz.lays106_ren : Go.Shelf.Ren := ⟨fun | 106 => 121 | 213 => 175 | 265 => 210 | n => n, fun | 9 => 9 | 3 => 3 | n => n, fun | n => n⟩
theorem Tryz.lays106 : Go.Proofs.Lays.n106 Tryz.prog Tryz.lays106_ren := {
  mixed := by kernel_rfl
  f106 := Tryz.func121.trans (congrArg some (by kernel_rfl))
  f213 := Tryz.func175.trans (congrArg some (by kernel_rfl))
  f265 := Tryz.func210.trans (congrArg some (by kernel_rfl))
  t3 := Tryz.underlying3
  a3 := Tryz.isAgg3
  z3 := Tryz.sizeOf3
  v3 := Tryz.zeroValue3
  t9 := Tryz.underlying9
  a9 := Tryz.isAgg9
  z9 := Tryz.sizeOf9
  v9 := Tryz.zeroValue9 }
theorem Tryz.strings_Compare (a b : ByteArray) (w : World) :
    Calls Tryz.prog 121 #[.string a, .string b] w fun e w' => e = .returned (.int .i64 (Lib.compareBytes a.data.toList b.data.toList)) ∧ w' = w := Any.strings_Compare Tryz.lays106 a b w
end Go.Proofs

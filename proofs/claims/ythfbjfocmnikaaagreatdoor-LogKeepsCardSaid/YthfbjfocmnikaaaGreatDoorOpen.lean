/- Arguments opened: a slice of whatever elements as a list, a struct's fields. Plain lemmas. Conditions: none of our own. -/
import Derived.ChangeArms
import Derived.ChangeSame
import Derived.ChangeSlices
import Derived.Deep.Slices
import Derived.WideShapes
import Derived.Test.YthfbjfocmnikaaaGreatDoorMem
namespace Go.Proofs.YthfbjfocmnikaaaGreatDoor
open Go.RowKit Go.WideShapes Go.ChangeShapes Go.Deep
set_option linter.unusedVariables false

theorem flat_len_of {α : Type} {f : α → List Value} {size : Nat} (hf : ∀ y, (f y).length = size) (l : List α) : (l.flatMap f).length = l.length * size := by
  induction l with
  | nil => simp
  | cons y l ih => simp only [List.flatMap_cons, List.length_append, hf, ih, List.length_cons, Nat.add_mul]; omega
theorem flat_at {α : Type} {f : α → List Value} {size : Nat} (hf : ∀ y, (f y).length = size) (hs : 0 < size) (l : List α) (j : Nat) : (l.flatMap f)[j]? = (l[j / size]?).bind fun y => (f y)[j % size]? := by
  induction l generalizing j with
  | nil => simp
  | cons y l ih =>
    rw [List.flatMap_cons]
    by_cases hj : j < size
    · rw [List.getElem?_append_left (by rw [hf]; exact hj), Nat.div_eq_of_lt hj, Nat.mod_eq_of_lt hj]
      simp
    · rw [List.getElem?_append_right (by rw [hf]; omega), hf, ih]
      have e1 : j / size = (j - size) / size + 1 := by rw [Nat.div_eq_sub_div hs (by omega)]
      have e2 : j % size = (j - size) % size := by rw [Nat.mod_eq_sub_mod (by omega)]
      rw [e1, e2]
      simp
theorem lt_of_cell {w : World} {p : Addr} {u : Value} (h : w.cell? p = some u) : p.block < w.heap.size := by
  rcases Nat.lt_or_ge p.block w.heap.size with h1 | h1
  · exact h1
  · simp [World.cell?, Array.getElem?_eq_none h1] at h

section
variable {H : Type} {enc : TypeId × Value → H} {P : Program} {w : World} {base : Nat} {spare : Nat → Bool} {held : Bool}

theorem open_list {α : Type} [Inhabited α] {t e : TypeId} {size fuel : Nat} {cs : List Value} {x : DataW H × List MemPlace} (f : α → List Value) (good : α → Prop) (ht : P.underlying t = some (.slice e)) (hC : P.cellsOf e = size) (hs : 0 < size)
    (hf : ∀ y, (f y).length = size) (hel : ∀ n cs x, DataW.trod enc P w base spare held n e cs = some x → ∃ y, cs = f y ∧ good y) (h : DataW.trod enc P w base spare held fuel t cs = some x) :
    ∃ (A : Option Addr) (cap : Nat) (l : List α), cs = [.slice A l.length cap] ∧ Reads w w.heap.size size A l.length (l.flatMap f) ∧ (∀ y ∈ l, good y) ∧ l.length ≤ cap ∧ cap ≤ maxLen := by
  rcases open_slice ht h with ⟨rfl, _⟩ | ⟨a, len, cap, m, n, D, Pl, rfl, hb, hl, hm, hmm, _, hx⟩
  · exact ⟨none, 0, [], rfl, Reads.none_, by simp, Nat.le_refl _, by simp [maxLen]⟩
  · have hle : len ≤ m := by rw [hmm]; split <;> omega
    obtain ⟨Y, hY⟩ := choose_lt (α := α) (n := len) (p := fun i y => good y ∧ w.cells? base (a.add (i * size)) size = some (f y)) (fun i hi => by
      obtain ⟨cs', h1, h2⟩ := hx i (by omega)
      obtain ⟨y, rfl, hg⟩ := hel _ _ _ h2
      rw [hC] at h1
      exact ⟨y, hg, h1⟩)
    have hlen : ((List.range len).map Y).length = len := by simp
    have hcell : ∀ j u, (((List.range len).map Y).flatMap f)[j]? = some u → w.cell? (a.add j) = some u := by
      intro j u hu
      rw [flat_at hf hs] at hu
      obtain ⟨y, hy, hu⟩ := Option.bind_eq_some_iff.1 hu
      have hjl : j / size < len := by
        have := (List.getElem?_eq_some_iff.1 hy).1
        simpa using this
      have hyY : y = Y (j / size) := by
        rw [List.getElem?_map, List.getElem?_range hjl] at hy
        simpa using hy.symm
      subst hyY
      obtain ⟨_, hc⟩ := hY _ hjl
      obtain ⟨_, _, hat⟩ := World.cells?_some hc
      have := hat (j % size) (Nat.mod_lt _ hs)
      rw [Go.Deep.add_add, Nat.mul_comm, Nat.div_add_mod] at this
      rw [this, hu]
    refine ⟨some a, cap, (List.range len).map Y, by rw [hlen], ⟨flat_len_of hf _, fun hn => ⟨a, rfl, ?_, hcell⟩⟩, ?_, by rw [hlen]; exact hl, hm⟩
    · rw [hlen] at hn
      have h0 := hcell 0
      rw [flat_at hf hs] at h0
      have e0 : ((List.range len).map Y)[0 / size]? = some (Y 0) := by rw [Nat.zero_div, List.getElem?_map, List.getElem?_range hn]; rfl
      rw [e0] at h0
      have hz : 0 < (f (Y 0)).length := by rw [hf]; exact hs
      have := lt_of_cell (h0 _ (by simp; exact List.getElem?_eq_getElem hz))
      rwa [block_of_add] at this
    · intro y hy
      obtain ⟨i, hi, rfl⟩ := List.mem_map.1 hy
      exact (hY i (List.mem_range.1 hi)).1

theorem trod_len {t : TypeId} {fs : Array Field} {fuel : Nat} {cs : List Value} {x : DataW H × List MemPlace} (ht : P.underlying t = some (.struct fs)) (h : DataW.trod enc P w base spare held fuel t cs = some x) : cs.length = P.cellsOf t := by
  obtain ⟨xs, n, _, _, hl, _⟩ := DataW.trod_struct ht h
  exact hl
theorem trod_field {t : TypeId} {fs : Array Field} {fuel : Nat} {cs : List Value} {x : DataW H × List MemPlace} (ht : P.underlying t = some (.struct fs)) (h : DataW.trod enc P w base spare held fuel t cs = some x)
    (i : Nat) (fd : Field) (hi : fs[i]? = some fd) (k : Nat) (hk : P.cellsOf fd.type = k) : ∃ n y, DataW.trod enc P w base spare held n fd.type ((cs.drop fd.offset).take k) = some y := by
  obtain ⟨xs, n, _, _, _, hlen, hg⟩ := DataW.trod_struct ht h
  have hlt : i < xs.length := by rw [hlen]; exact (Array.getElem?_eq_some_iff.1 hi).1
  subst hk
  exact ⟨n, xs[i], (hg i fd hi).trans (List.getElem?_eq_getElem hlt)⟩
end
/-- A number that an int holds. -/
def I64 (n : Int) : Prop := -9223372036854775808 ≤ n ∧ n ≤ 9223372036854775807
theorem i64_of_wf {n : Int} (h : (Lit.int .i64 n).wf = true) : I64 n := by
  simp only [Lit.wf, Bool.and_eq_true, decide_eq_true_eq] at h
  exact h
end Go.Proofs.YthfbjfocmnikaaaGreatDoor

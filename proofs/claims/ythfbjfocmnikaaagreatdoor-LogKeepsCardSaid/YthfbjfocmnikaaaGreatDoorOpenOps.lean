/- 4 texts in one: each says ahead of itself what is proved, and its conditions. -/
import Derived.ChangeArms
import Derived.ChangeSame
import Derived.ChangeSlices
import Derived.Deep.Slices
import Derived.WideShapes
import Derived.Test.YthfbjfocmnikaaaGreatDoorBytes
import Derived.Test.YthfbjfocmnikaaaGreatDoorLetter
import Derived.Test.YthfbjfocmnikaaaGreatDoorMem
/- Arguments opened: a slice of whatever elements as a list, a struct's fields. Plain lemmas. Conditions: none of our own. -/
namespace Go.Proofs.YthfbjfocmnikaaaGreatDoor
open Go.RowKit Go.WideShapes Go.ChangeShapes Go.Deep
set_option linter.unusedVariables false

theorem flat_len_of {α : Type} {f : α → List Value} {size : Nat} (hf : ∀ y, (f y).length = size) (l : List α) : (l.flatMap f).length = l.length * size := by
  induction l with
  | nil => simp
  | cons y l ih => simp only [List.flatMap_cons, List.length_append, hf, ih, List.length_cons, Nat.add_mul]; omega
theorem flat_at {α : Type} {f : α → List Value} {size : Nat} (hf : ∀ y, (f y).length = size) (hs : 0 < size) (l : List α) (j : Nat) : (l.flatMap f)[j]? = (l[j / size]?).bind fun y => (f y)[j % size]? := by
  induction l generalizing j with
  | nil => simp
  | cons y l ih =>
    rw [List.flatMap_cons]
    by_cases hj : j < size
    · rw [List.getElem?_append_left (by rw [hf]; exact hj), Nat.div_eq_of_lt hj, Nat.mod_eq_of_lt hj]
      simp
    · rw [List.getElem?_append_right (by rw [hf]; omega), hf, ih]
      have e1 : j / size = (j - size) / size + 1 := by rw [Nat.div_eq_sub_div hs (by omega)]
      have e2 : j % size = (j - size) % size := by rw [Nat.mod_eq_sub_mod (by omega)]
      rw [e1, e2]
      simp
theorem lt_of_cell {w : World} {p : Addr} {u : Value} (h : w.cell? p = some u) : p.block < w.heap.size := by
  rcases Nat.lt_or_ge p.block w.heap.size with h1 | h1
  · exact h1
  · simp [World.cell?, Array.getElem?_eq_none h1] at h

section
variable {H : Type} {enc : TypeId × Value → H} {P : Program} {w : World} {base : Nat} {spare : Nat → Bool} {held : Bool}

theorem open_list {α : Type} [Inhabited α] {t e : TypeId} {size fuel : Nat} {cs : List Value} {x : DataW H × List MemPlace} (f : α → List Value) (good : α → Prop) (ht : P.underlying t = some (.slice e)) (hC : P.cellsOf e = size) (hs : 0 < size)
    (hf : ∀ y, (f y).length = size) (hel : ∀ n cs x, DataW.trod enc P w base spare held n e cs = some x → ∃ y, cs = f y ∧ good y) (h : DataW.trod enc P w base spare held fuel t cs = some x) :
    ∃ (A : Option Addr) (cap : Nat) (l : List α), cs = [.slice A l.length cap] ∧ Reads w w.heap.size size A l.length (l.flatMap f) ∧ (∀ y ∈ l, good y) ∧ l.length ≤ cap ∧ cap ≤ maxLen := by
  rcases open_slice ht h with ⟨rfl, _⟩ | ⟨a, len, cap, m, n, D, Pl, rfl, hb, hl, hm, hmm, _, hx⟩
  · exact ⟨none, 0, [], rfl, Reads.none_, by simp, Nat.le_refl _, by simp [maxLen]⟩
  · have hle : len ≤ m := by rw [hmm]; split <;> omega
    obtain ⟨Y, hY⟩ := choose_lt (α := α) (n := len) (p := fun i y => good y ∧ w.cells? base (a.add (i * size)) size = some (f y)) (fun i hi => by
      obtain ⟨cs', h1, h2⟩ := hx i (by omega)
      obtain ⟨y, rfl, hg⟩ := hel _ _ _ h2
      rw [hC] at h1
      exact ⟨y, hg, h1⟩)
    have hlen : ((List.range len).map Y).length = len := by simp
    have hcell : ∀ j u, (((List.range len).map Y).flatMap f)[j]? = some u → w.cell? (a.add j) = some u := by
      intro j u hu
      rw [flat_at hf hs] at hu
      obtain ⟨y, hy, hu⟩ := Option.bind_eq_some_iff.1 hu
      have hjl : j / size < len := by
        have := (List.getElem?_eq_some_iff.1 hy).1
        simpa using this
      have hyY : y = Y (j / size) := by
        rw [List.getElem?_map, List.getElem?_range hjl] at hy
        simpa using hy.symm
      subst hyY
      obtain ⟨_, hc⟩ := hY _ hjl
      obtain ⟨_, _, hat⟩ := World.cells?_some hc
      have := hat (j % size) (Nat.mod_lt _ hs)
      rw [Go.Deep.add_add, Nat.mul_comm, Nat.div_add_mod] at this
      rw [this, hu]
    refine ⟨some a, cap, (List.range len).map Y, by rw [hlen], ⟨flat_len_of hf _, fun hn => ⟨a, rfl, ?_, hcell⟩⟩, ?_, by rw [hlen]; exact hl, hm⟩
    · rw [hlen] at hn
      have h0 := hcell 0
      rw [flat_at hf hs] at h0
      have e0 : ((List.range len).map Y)[0 / size]? = some (Y 0) := by rw [Nat.zero_div, List.getElem?_map, List.getElem?_range hn]; rfl
      rw [e0] at h0
      have hz : 0 < (f (Y 0)).length := by rw [hf]; exact hs
      have := lt_of_cell (h0 _ (by simp; exact List.getElem?_eq_getElem hz))
      rwa [block_of_add] at this
    · intro y hy
      obtain ⟨i, hi, rfl⟩ := List.mem_map.1 hy
      exact (hY i (List.mem_range.1 hi)).1

theorem trod_len {t : TypeId} {fs : Array Field} {fuel : Nat} {cs : List Value} {x : DataW H × List MemPlace} (ht : P.underlying t = some (.struct fs)) (h : DataW.trod enc P w base spare held fuel t cs = some x) : cs.length = P.cellsOf t := by
  obtain ⟨xs, n, _, _, hl, _⟩ := DataW.trod_struct ht h
  exact hl
theorem trod_field {t : TypeId} {fs : Array Field} {fuel : Nat} {cs : List Value} {x : DataW H × List MemPlace} (ht : P.underlying t = some (.struct fs)) (h : DataW.trod enc P w base spare held fuel t cs = some x)
    (i : Nat) (fd : Field) (hi : fs[i]? = some fd) (k : Nat) (hk : P.cellsOf fd.type = k) : ∃ n y, DataW.trod enc P w base spare held n fd.type ((cs.drop fd.offset).take k) = some y := by
  obtain ⟨xs, n, _, _, _, hlen, hg⟩ := DataW.trod_struct ht h
  have hlt : i < xs.length := by rw [hlen]; exact (Array.getElem?_eq_some_iff.1 hi).1
  subst hk
  exact ⟨n, xs[i], (hg i fd hi).trans (List.getElem?_eq_getElem hlt)⟩
end
/-- A number that an int holds. -/
def I64 (n : Int) : Prop := -9223372036854775808 ≤ n ∧ n ≤ 9223372036854775807
theorem i64_of_wf {n : Int} (h : (Lit.int .i64 n).wf = true) : I64 n := by
  simp only [Lit.wf, Bool.and_eq_true, decide_eq_true_eq] at h
  exact h
end Go.Proofs.YthfbjfocmnikaaaGreatDoor
/- Arguments opened: dots. Plain lemmas. Conditions: none of our own. -/
namespace Go.Proofs.YthfbjfocmnikaaaGreatDoor
open Go.RowKit Go.WideShapes Go.ChangeShapes Go.Deep
set_option linter.unusedVariables false

instance : Inhabited LDot := ⟨⟨0, 0⟩⟩
def LDot.In (d : LDot) : Prop := I64 d.who ∧ I64 d.n
theorem cellsDot : Tryz.prog.cellsOf 27 = 2 := by kernel_rfl
theorem cellsInt : Tryz.prog.cellsOf 3 = 1 := by kernel_rfl
theorem cellsStr : Tryz.prog.cellsOf 9 = 1 := by kernel_rfl
section
variable {H : Type} {enc : TypeId × Value → H} {w : World} {base : Nat} {spare : Nat → Bool} {held : Bool}
set_option maxRecDepth 100000 in
theorem open_dot {fuel : Nat} {cs : List Value} {x : DataW H × List MemPlace} (h : DataW.trod enc Tryz.prog w base spare held fuel 27 cs = some x) : ∃ d : LDot, cs = d.cells ∧ d.In := by
  have hT := Tryz.underlying27
  have hl := trod_len hT h
  rw [cellsDot] at hl
  match cs, hl with
  | [c0, c1], _ =>
    obtain ⟨n0, y0, g0⟩ : ∃ n y, DataW.trod enc Tryz.prog w base spare held n 3 [c0] = some y := trod_field hT h 0 _ rfl 1 cellsInt
    obtain ⟨n1, y1, g1⟩ : ∃ n y, DataW.trod enc Tryz.prog w base spare held n 3 [c1] = some y := trod_field hT h 1 _ rfl 1 cellsInt
    obtain ⟨a0, e0, _, w0⟩ := DataW.trod_int Tryz.underlying3 g0
    obtain ⟨a1, e1, _, w1⟩ := DataW.trod_int Tryz.underlying3 g1
    simp at e0 e1
    subst e0 e1
    exact ⟨⟨a0, a1⟩, rfl, i64_of_wf w0, i64_of_wf w1⟩
theorem dcells_two (y : LDot) : y.cells.length = 2 := rfl
theorem open_dots {fuel : Nat} {cs : List Value} {x : DataW H × List MemPlace} (h : DataW.trod enc Tryz.prog w base spare held fuel 28 cs = some x) :
    ∃ (A : Option Addr) (cap : Nat) (l : List LDot), cs = [.slice A l.length cap] ∧ Reads w w.heap.size 2 A l.length (dcells l) ∧ (∀ y ∈ l, y.In) ∧ l.length ≤ cap ∧ cap ≤ maxLen :=
  open_list LDot.cells LDot.In Tryz.underlying28 cellsDot (by decide) dcells_two (fun _ _ _ h => open_dot h) h
end
end Go.Proofs.YthfbjfocmnikaaaGreatDoor
/- Arguments opened: ops. Plain lemmas. Conditions: none of our own. -/
namespace Go.Proofs.YthfbjfocmnikaaaGreatDoor
open Go.RowKit Go.WideShapes Go.ChangeShapes Go.Deep
set_option linter.unusedVariables false

instance : Inhabited LOp := ⟨⟨⟨0, 0⟩, 0, ⟨#[]⟩, 0, []⟩⟩
theorem cellsOp : Tryz.prog.cellsOf 30 = 6 := by kernel_rfl
theorem cellsDots : Tryz.prog.cellsOf 28 = 1 := by kernel_rfl
section
variable {H : Type} {enc : TypeId × Value → H} {w : World} {base : Nat} {spare : Nat → Bool} {held : Bool}
/-- An op of memory: as it reads, and where its dots lie. -/
structure OpAt where
  op : LOp
  at_ : Option Addr
  cap : Nat
instance : Inhabited OpAt := ⟨⟨default, none, 0⟩⟩
def OpAt.cells (y : OpAt) : List Value := (y.op.cells y.at_ y.cap).toList
def OpAt.Good (w : World) (y : OpAt) : Prop :=
  Reads w w.heap.size 2 y.at_ y.op.seen.length (dcells y.op.seen) ∧ y.op.place.size ≤ maxLen ∧ I64 y.op.what ∧ I64 y.op.letter ∧ y.op.dot.In ∧ (∀ d ∈ y.op.seen, d.In) ∧ y.op.seen.length ≤ y.cap ∧ y.cap ≤ maxLen
set_option maxRecDepth 100000 in
theorem open_op {fuel : Nat} {cs : List Value} {x : DataW H × List MemPlace} (h : DataW.trod enc Tryz.prog w base spare held fuel 30 cs = some x) : ∃ y : OpAt, cs = y.cells ∧ y.Good w := by
  have hT := Tryz.underlying30
  have hl := trod_len hT h
  rw [cellsOp] at hl
  match cs, hl with
  | [c0, c1, c2, c3, c4, c5], _ =>
    obtain ⟨n0, y0, g0⟩ : ∃ n y, DataW.trod enc Tryz.prog w base spare held n 27 [c0, c1] = some y := trod_field hT h 0 _ rfl 2 cellsDot
    obtain ⟨n1, y1, g1⟩ : ∃ n y, DataW.trod enc Tryz.prog w base spare held n 3 [c2] = some y := trod_field hT h 1 _ rfl 1 cellsInt
    obtain ⟨n2, y2, g2⟩ : ∃ n y, DataW.trod enc Tryz.prog w base spare held n 9 [c3] = some y := trod_field hT h 2 _ rfl 1 cellsStr
    obtain ⟨n3, y3, g3⟩ : ∃ n y, DataW.trod enc Tryz.prog w base spare held n 3 [c4] = some y := trod_field hT h 3 _ rfl 1 cellsInt
    obtain ⟨n4, y4, g4⟩ : ∃ n y, DataW.trod enc Tryz.prog w base spare held n 28 [c5] = some y := trod_field hT h 4 _ rfl 1 cellsDots
    obtain ⟨d, e0, hd⟩ := open_dot g0
    obtain ⟨a1, e1, _, w1⟩ := DataW.trod_int Tryz.underlying3 g1
    obtain ⟨a2, e2, _, w2⟩ := DataW.trod_string Tryz.underlying9 g2
    obtain ⟨a3, e3, _, w3⟩ := DataW.trod_int Tryz.underlying3 g3
    obtain ⟨A, cap, l, e4, hr, hin, hc1, hc2⟩ := open_dots g4
    simp [LDot.cells] at e0 e1 e2 e3 e4
    obtain ⟨e0, e0'⟩ := e0
    subst e0 e0' e1 e2 e3 e4
    exact ⟨⟨⟨d, a1, a2, a3, l⟩, A, cap⟩, rfl, hr, w2, i64_of_wf w1, i64_of_wf w3, hd, hin, hc1, hc2⟩
end
end Go.Proofs.YthfbjfocmnikaaaGreatDoor
/- Arguments opened: lists of ops. Plain lemmas. Conditions: none of our own. -/
namespace Go.Proofs.YthfbjfocmnikaaaGreatDoor
open Go.RowKit Go.WideShapes Go.ChangeShapes Go.Deep
set_option linter.unusedVariables false
def ocells (ys : List OpAt) : List Value := ys.flatMap OpAt.cells
theorem ocell_len (y : OpAt) : y.cells.length = 6 := rfl
theorem ocells_len (ys : List OpAt) : (ocells ys).length = ys.length * 6 := flat_len_of ocell_len ys
theorem ocells_at (l : List OpAt) (k r : Nat) (hk : k < l.length) (hr : r < 6) : (ocells l)[k * 6 + r]? = l[k].cells[r]? := by
  unfold ocells
  rw [flat_at ocell_len (by decide), show (k * 6 + r) / 6 = k by omega, show (k * 6 + r) % 6 = r by omega, List.getElem?_eq_getElem hk]
  rfl
theorem ocells_one (ys : List OpAt) : OneCells (ocells ys) := by
  intro u hu
  simp only [ocells, List.mem_flatMap] at hu
  obtain ⟨y, _, hu⟩ := hu
  simp only [OpAt.cells, LOp.cells, List.mem_cons, List.not_mem_nil, or_false] at hu
  rcases hu with rfl | rfl | rfl | rfl | rfl | rfl <;> rfl
/-- An op of the row, read. -/
theorem Reads.op {w : World} {B : Nat} {A : Option Addr} {l : List OpAt} (h : Reads w B 6 A l.length (ocells l)) {k : Nat} (hk : k < l.length) :
    ∃ ad, A = some ad ∧ ad.block < B ∧ w.cell? (ad.add (k * 6)) = some (.int .i64 l[k].op.dot.who) ∧ w.cell? ⟨(ad.add (k * 6)).block, (ad.add (k * 6)).off + 1, none⟩ = some (.int .i64 l[k].op.dot.n) ∧
      w.cell? ⟨(ad.add (k * 6)).block, (ad.add (k * 6)).off + 2, none⟩ = some (.int .i64 l[k].op.what) ∧ w.cell? ⟨(ad.add (k * 6)).block, (ad.add (k * 6)).off + 3, none⟩ = some (.string l[k].op.place) ∧
      w.cell? ⟨(ad.add (k * 6)).block, (ad.add (k * 6)).off + 4, none⟩ = some (.int .i64 l[k].op.letter) ∧ w.cell? ⟨(ad.add (k * 6)).block, (ad.add (k * 6)).off + 5, none⟩ = some (.slice l[k].at_ l[k].op.seen.length l[k].cap) := by
  obtain ⟨ad, e, hb, hc⟩ := h.2 (by omega)
  have key : ∀ r u, 0 < r → r < 6 → l[k].cells[r]? = some u → w.cell? ⟨(ad.add (k * 6)).block, (ad.add (k * 6)).off + r, none⟩ = some u := fun r u h0 hr hu => by
    have e1 : (⟨(ad.add (k * 6)).block, (ad.add (k * 6)).off + r, none⟩ : Addr) = (ad.add (k * 6)).add r := by unfold Addr.add; rw [if_neg (by omega : ¬ r = 0)]
    rw [e1, add_of_add]
    exact hc _ _ (by rw [ocells_at l k r hk hr]; exact hu)
  refine ⟨ad, e, hb, ?_, key 1 _ (by omega) (by omega) rfl, key 2 _ (by omega) (by omega) rfl, key 3 _ (by omega) (by omega) rfl, key 4 _ (by omega) (by omega) rfl, key 5 _ (by omega) (by omega) rfl⟩
  exact hc _ _ (by rw [show k * 6 = k * 6 + 0 from rfl, ocells_at l k 0 hk (by omega)]; rfl)
section
variable {H : Type} {enc : TypeId × Value → H} {w : World} {base : Nat} {spare : Nat → Bool} {held : Bool}
theorem open_ops {fuel : Nat} {cs : List Value} {x : DataW H × List MemPlace} (h : DataW.trod enc Tryz.prog w base spare held fuel 22 cs = some x) :
    ∃ (A : Option Addr) (cap : Nat) (l : List OpAt), cs = [.slice A l.length cap] ∧ Reads w w.heap.size 6 A l.length (ocells l) ∧ (∀ y ∈ l, y.Good w) ∧ l.length ≤ cap ∧ cap ≤ maxLen :=
  open_list OpAt.cells (OpAt.Good w) Tryz.underlying22 cellsOp (by decide) ocell_len (fun _ _ _ h => open_op h) h
set_option maxRecDepth 100000 in
theorem arg_ops {r : Reach} {b0 : Nat} {v : Value} {d : DataW H} {p : List MemPlace} (hv : Value.okWide Tryz.prog w r b0 22 v) (h : DataW.Trod enc Tryz.prog w base spare held 22 v d p) :
    ∃ (A : Option Addr) (cap : Nat) (l : List OpAt), v = .slice A l.length cap ∧ Reads w w.heap.size 6 A l.length (ocells l) ∧ (∀ y ∈ l, y.Good w) ∧ l.length ≤ cap ∧ cap ≤ maxLen := by
  obtain ⟨a, len, c, rfl⟩ := okWide_slice Tryz.underlying22 hv
  obtain ⟨fuel, hf⟩ := h
  obtain ⟨A, cap, l, e, hr⟩ := open_ops hf
  refine ⟨A, cap, l, ?_, hr⟩
  have e' : [Value.slice a len c] = [.slice A l.length cap] := e
  injection e'
end
theorem OpAt.Good.below {w w' : World} {y : OpAt} (h : y.Good w) (hb : Below w.heap.size w w') : y.Good w' := ⟨(h.1.below hb).more hb.size, h.2⟩
end Go.Proofs.YthfbjfocmnikaaaGreatDoor

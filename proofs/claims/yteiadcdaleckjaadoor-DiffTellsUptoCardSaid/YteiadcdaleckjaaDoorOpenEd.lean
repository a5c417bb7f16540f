/- An argument of edits opened, with what the bound on its bulk gives. Plain lemmas. Conditions: none of our own. -/
import Derived.Test.YteiadcdaleckjaaDoorRows
import Derived.Test.YteiadcdaleckjaaDoorDiffWalk
import Derived.Test.YteiadcdaleckjaaDoorOpenLink
namespace Go.Proofs.YteiadcdaleckjaaDoor
open Go.RowKit Go.WideShapes Go.ChangeShapes Go.Deep
set_option linter.unusedVariables false
namespace Bulk
theorem part_le {H : Type} {d : DataW H} {l : List (DataW H)} (h : d ∈ l) : Rows.uptoBulk d ≤ Rows.uptoBulkAll l := by
  induction l with
  | nil => cases h
  | cons x r ih =>
    simp only [Rows.uptoBulkAll]
    cases List.mem_cons.1 h with
    | inl e => subst e; omega
    | inr e => have := ih e; omega
/-- A sum is at most the bulk, if each part is. -/
theorem sum_le {H : Type} {α : Type} (f : α → Nat) : ∀ (D : List (DataW H)) (l : List α), D.length = l.length → (∀ i (h1 : i < D.length) (h2 : i < l.length), f l[i] + 1 ≤ Rows.uptoBulk D[i]) → (l.map f).sum + l.length ≤ Rows.uptoBulkAll D
  | [], [], _, _ => by simp [Rows.uptoBulkAll]
  | d :: D, y :: l, h, hh => by
    have h0 := hh 0 (by simp) (by simp)
    have ih := sum_le f D l (by simpa using h) (fun i h1 h2 => hh (i + 1) (by simpa using h1) (by simpa using h2))
    simp only [List.getElem_cons_zero] at h0
    simp only [Rows.uptoBulkAll, List.map_cons, List.sum_cons, List.length_cons]
    omega
  | [], _ :: _, h, _ => by simp at h
  | _ :: _, [], h, _ => by simp at h
end Bulk
section
variable {H : Type} {enc : TypeId × Value → H} {P : Program} {w : World} {base : Nat} {spare : Nat → Bool} {held : Bool}
/-- A slice of whatever elements as a list, beside its data. -/
theorem open_listD {α : Type} [Inhabited α] {t e : TypeId} {size fuel : Nat} {cs : List Value} {x : DataW H × List MemPlace} (f : α → List Value) (good : DataW H → α → Prop) (ht : P.underlying t = some (.slice e)) (hC : P.cellsOf e = size) (hs : 0 < size)
    (hf : ∀ y, (f y).length = size) (hel : ∀ n cs x, DataW.trod enc P w base spare held n e cs = some x → ∃ y, cs = f y ∧ good x.1 y) (h : DataW.trod enc P w base spare held fuel t cs = some x) :
    ∃ (A : Option Addr) (cap : Nat) (l : List α), cs = [.slice A l.length cap] ∧ Reads w w.heap.size size A l.length (l.flatMap f) ∧ l.length ≤ cap ∧ cap ≤ maxLen ∧
      ((l = [] ∧ x.1 = .nil) ∨ ∃ D sp : List (DataW H), x.1 = .slice D sp ∧ D.length = l.length ∧ ∀ i (h1 : i < D.length) (h2 : i < l.length), good D[i] l[i]) := by
  rcases open_slice ht h with ⟨rfl, rfl⟩ | ⟨a, len, cap, m, n, D, Pl, rfl, hb, hl, hm, hmm, rfl, hx⟩
  · exact ⟨none, 0, [], rfl, Reads.none_, Nat.le_refl _, by simp [maxLen], .inl ⟨rfl, rfl⟩⟩
  · have hle : len ≤ m := by rw [hmm]; split <;> omega
    obtain ⟨Y, hY⟩ := choose_lt (α := α) (n := len) (p := fun i y => good (D i) y ∧ w.cells? base (a.add (i * size)) size = some (f y)) (fun i hi => by
      obtain ⟨cs', h1, h2⟩ := hx i (by omega)
      obtain ⟨y, rfl, hg⟩ := hel _ _ _ h2
      rw [hC] at h1
      exact ⟨y, hg, h1⟩)
    have hlen : ((List.range len).map Y).length = len := by simp
    have hcell : ∀ j u, (((List.range len).map Y).flatMap f)[j]? = some u → w.cell? (a.add j) = some u := by
      intro j u hu
      rw [flat_at hf hs] at hu
      obtain ⟨y, hy, hu⟩ := Option.bind_eq_some_iff.1 hu
      have hjl : j / size < len := by
        have := (List.getElem?_eq_some_iff.1 hy).1
        simpa using this
      have hyY : y = Y (j / size) := by
        rw [List.getElem?_map, List.getElem?_range hjl] at hy
        simpa using hy.symm
      subst hyY
      obtain ⟨_, hc⟩ := hY _ hjl
      obtain ⟨_, _, hat⟩ := World.cells?_some hc
      have := hat (j % size) (Nat.mod_lt _ hs)
      rw [Go.Deep.add_add, Nat.mul_comm, Nat.div_add_mod] at this
      rw [this, hu]
    refine ⟨some a, cap, (List.range len).map Y, by rw [hlen], ⟨flat_len_of hf _, fun hn => ⟨a, rfl, ?_, hcell⟩⟩, by rw [hlen]; exact hl, hm, .inr ⟨_, _, rfl, by simp, fun i h1 h2 => ?_⟩⟩
    · rw [hlen] at hn
      have h0 := hcell 0
      rw [flat_at hf hs] at h0
      have e0 : ((List.range len).map Y)[0 / size]? = some (Y 0) := by rw [Nat.zero_div, List.getElem?_map, List.getElem?_range hn]; rfl
      rw [e0] at h0
      have hz : 0 < (f (Y 0)).length := by rw [hf]; exact hs
      have := lt_of_cell (h0 _ (by simp; exact List.getElem?_eq_getElem hz))
      rwa [block_of_add] at this
    · have hi : i < len := by simpa using h1
      simpa using (hY i hi).1
end
section
variable {H : Type} {enc : TypeId × Value → H} {w : World} {base : Nat} {spare : Nat → Bool} {held : Bool}
theorem cellsIntE : Tryd.prog.cellsOf 3 = 1 := by kernel_rfl
theorem cellsEdit : Tryd.prog.cellsOf 59 = 3 := by kernel_rfl
set_option maxRecDepth 100000 in
theorem open_ed {fuel : Nat} {cs : List Value} {x : DataW H × List MemPlace} (h : DataW.trod enc Tryd.prog w base spare held fuel 59 cs = some x) : ∃ y : LEd, cs = y.cells ∧ y.write.size + 1 ≤ Rows.uptoBulk x.1 := by
  have hT := Tryd.underlying59
  obtain ⟨xs, n, _, rfl, hl, hlen, hg⟩ := DataW.trod_struct hT h
  rw [cellsEdit] at hl
  match cs, hl with
  | [c0, c1, c2], _ =>
    obtain ⟨n0, y0, g0⟩ : ∃ n y, DataW.trod enc Tryd.prog w base spare held n 3 [c0] = some y := trod_field hT h 0 _ rfl 1 cellsIntE
    obtain ⟨n1, y1, g1⟩ : ∃ n y, DataW.trod enc Tryd.prog w base spare held n 3 [c1] = some y := trod_field hT h 1 _ rfl 1 cellsIntE
    obtain ⟨a0, e0, _, w0⟩ := DataW.trod_int Tryd.underlying3 g0
    obtain ⟨a1, e1, _, w1⟩ := DataW.trod_int Tryd.underlying3 g1
    have h2 := hg 2 _ rfl
    have hlt : 2 < xs.length := by rw [hlen]; decide
    rw [List.getElem?_eq_getElem hlt] at h2
    have h2' : DataW.trod enc Tryd.prog w base spare held n 9 [c2] = some xs[2] := h2
    obtain ⟨a2, e2, hd, w2⟩ := DataW.trod_string Tryd.underlying9 h2'
    simp at e0 e1 e2
    subst e0 e1 e2
    refine ⟨⟨a0, a1, a2⟩, rfl, ?_⟩
    have hm : (DataW.lit (H := H) (.string a2.data.toList)) ∈ xs.map (·.1) := by
      refine List.mem_map.2 ⟨xs[2], List.getElem_mem hlt, ?_⟩
      rw [hd]
    have := Bulk.part_le hm
    simp only [Rows.uptoBulk] at this ⊢
    rw [show a2.data.toList.length = a2.size by rw [Array.length_toList]; rfl] at this
    show a2.size + 1 ≤ _
    omega
set_option maxRecDepth 100000 in
theorem arg_edits {r : Reach} {b0 : Nat} {v : Value} {d : DataW H} {p : List MemPlace} (hv : Value.okWide Tryd.prog w r b0 22 v) (h : DataW.Trod enc Tryd.prog w base spare held 22 v d p) :
    ∃ (A : Option Addr) (cap : Nat) (l : List LEd), v = .slice A l.length cap ∧ Reads w w.heap.size 3 A l.length (ecells l) ∧ l.length ≤ cap ∧ cap ≤ maxLen ∧ sumW l + l.length ≤ Rows.uptoBulk d := by
  obtain ⟨a, len, c, rfl⟩ := okWide_slice Tryd.underlying22 hv
  obtain ⟨fuel, hf⟩ := h
  obtain ⟨A, cap, l, e, hr, h1, h2, h3⟩ := open_listD LEd.cells (fun d y => y.write.size + 1 ≤ Rows.uptoBulk d) Tryd.underlying22 cellsEdit (by decide) LEd.cells_len (fun _ _ _ h => open_ed h) hf
  refine ⟨A, cap, l, ?_, hr, h1, h2, ?_⟩
  · have e' : [Value.slice a len c] = [.slice A l.length cap] := e
    injection e'
  · rcases h3 with ⟨rfl, _⟩ | ⟨D, sp, e2, hlen, hg⟩
    · simp [sumW]
    · have hs := Bulk.sum_le (fun y : LEd => y.write.size) D l hlen hg
      have e3 : d = .slice D sp := e2
      rw [e3]
      simp only [Rows.uptoBulk]
      unfold sumW
      omega
end
end Go.Proofs.YteiadcdaleckjaaDoor

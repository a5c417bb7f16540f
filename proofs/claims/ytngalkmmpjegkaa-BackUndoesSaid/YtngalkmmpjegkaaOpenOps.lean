/- Arguments opened: lists of ops. Plain lemmas. Conditions: none of our own. -/
import Derived.Test.YtngalkmmpjegkaaOpenOp
namespace Go.Proofs.Ytngalkmmpjegkaa
open Go.RowKit Go.WideShapes Go.ChangeShapes Go.Deep
set_option linter.unusedVariables false
def ocells (ys : List OpAt) : List Value := ys.flatMap OpAt.cells
theorem ocell_len (y : OpAt) : y.cells.length = 6 := rfl
theorem ocells_len (ys : List OpAt) : (ocells ys).length = ys.length * 6 := flat_len_of ocell_len ys
theorem ocells_at (l : List OpAt) (k r : Nat) (hk : k < l.length) (hr : r < 6) : (ocells l)[k * 6 + r]? = l[k].cells[r]? := by
  unfold ocells
  rw [flat_at ocell_len (by decide), show (k * 6 + r) / 6 = k by omega, show (k * 6 + r) % 6 = r by omega, List.getElem?_eq_getElem hk]
  rfl
theorem ocells_one (ys : List OpAt) : OneCells (ocells ys) := by
  intro u hu
  simp only [ocells, List.mem_flatMap] at hu
  obtain ⟨y, _, hu⟩ := hu
  simp only [OpAt.cells, LOp.cells, List.mem_cons, List.not_mem_nil, or_false] at hu
  rcases hu with rfl | rfl | rfl | rfl | rfl | rfl <;> rfl
/-- An op of the row, read. -/
theorem Reads.op {w : World} {B : Nat} {A : Option Addr} {l : List OpAt} (h : Reads w B 6 A l.length (ocells l)) {k : Nat} (hk : k < l.length) :
    ∃ ad, A = some ad ∧ ad.block < B ∧ w.cell? (ad.add (k * 6)) = some (.int .i64 l[k].op.dot.who) ∧ w.cell? ⟨(ad.add (k * 6)).block, (ad.add (k * 6)).off + 1, none⟩ = some (.int .i64 l[k].op.dot.n) ∧
      w.cell? ⟨(ad.add (k * 6)).block, (ad.add (k * 6)).off + 2, none⟩ = some (.int .i64 l[k].op.what) ∧ w.cell? ⟨(ad.add (k * 6)).block, (ad.add (k * 6)).off + 3, none⟩ = some (.string l[k].op.place) ∧
      w.cell? ⟨(ad.add (k * 6)).block, (ad.add (k * 6)).off + 4, none⟩ = some (.int .i64 l[k].op.letter) ∧ w.cell? ⟨(ad.add (k * 6)).block, (ad.add (k * 6)).off + 5, none⟩ = some (.slice l[k].at_ l[k].op.seen.length l[k].cap) := by
  obtain ⟨ad, e, hb, hc⟩ := h.2 (by omega)
  have key : ∀ r u, 0 < r → r < 6 → l[k].cells[r]? = some u → w.cell? ⟨(ad.add (k * 6)).block, (ad.add (k * 6)).off + r, none⟩ = some u := fun r u h0 hr hu => by
    have e1 : (⟨(ad.add (k * 6)).block, (ad.add (k * 6)).off + r, none⟩ : Addr) = (ad.add (k * 6)).add r := by unfold Addr.add; rw [if_neg (by omega : ¬ r = 0)]
    rw [e1, add_of_add]
    exact hc _ _ (by rw [ocells_at l k r hk hr]; exact hu)
  refine ⟨ad, e, hb, ?_, key 1 _ (by omega) (by omega) rfl, key 2 _ (by omega) (by omega) rfl, key 3 _ (by omega) (by omega) rfl, key 4 _ (by omega) (by omega) rfl, key 5 _ (by omega) (by omega) rfl⟩
  exact hc _ _ (by rw [show k * 6 = k * 6 + 0 from rfl, ocells_at l k 0 hk (by omega)]; rfl)
section
variable {H : Type} {enc : TypeId × Value → H} {w : World} {base : Nat} {spare : Nat → Bool} {held : Bool}
theorem open_ops {fuel : Nat} {cs : List Value} {x : DataW H × List MemPlace} (h : DataW.trod enc Try.prog w base spare held fuel 22 cs = some x) :
    ∃ (A : Option Addr) (cap : Nat) (l : List OpAt), cs = [.slice A l.length cap] ∧ Reads w w.heap.size 6 A l.length (ocells l) ∧ (∀ y ∈ l, y.Good w) ∧ l.length ≤ cap ∧ cap ≤ maxLen :=
  open_list OpAt.cells (OpAt.Good w) Try.underlying22 cellsOp (by decide) ocell_len (fun _ _ _ h => open_op h) h
set_option maxRecDepth 100000 in
theorem arg_ops {r : Reach} {b0 : Nat} {v : Value} {d : DataW H} {p : List MemPlace} (hv : Value.okWide Try.prog w r b0 22 v) (h : DataW.Trod enc Try.prog w base spare held 22 v d p) :
    ∃ (A : Option Addr) (cap : Nat) (l : List OpAt), v = .slice A l.length cap ∧ Reads w w.heap.size 6 A l.length (ocells l) ∧ (∀ y ∈ l, y.Good w) ∧ l.length ≤ cap ∧ cap ≤ maxLen := by
  obtain ⟨a, len, c, rfl⟩ := okWide_slice Try.underlying22 hv
  obtain ⟨fuel, hf⟩ := h
  obtain ⟨A, cap, l, e, hr⟩ := open_ops hf
  refine ⟨A, cap, l, ?_, hr⟩
  have e' : [Value.slice a len c] = [.slice A l.length cap] := e
  injection e'
end
theorem OpAt.Good.below {w w' : World} {y : OpAt} (h : y.Good w) (hb : Below w.heap.size w w') : y.Good w' := ⟨(h.1.below hb).more hb.size, h.2⟩
end Go.Proofs.Ytngalkmmpjegkaa

/- 4 texts in one: each says ahead of itself what is proved, and its conditions. -/
import Derived.Test.YtkaccnegdmpofaaGreatDoorDot
import Derived.Test.YtkaccnegdmpofaaGreatDoorMem
import Derived.Test.YtkaccnegdmpofaaGreatDoorOpenOp
import Derived.Test.YtkaccnegdmpofaaGreatDoorVecAdd
/- Arguments opened: lists of ops. Plain lemmas. Conditions: none of our own. -/
namespace Go.Proofs.YtkaccnegdmpofaaGreatDoor
open Go.RowKit Go.WideShapes Go.ChangeShapes Go.Deep
set_option linter.unusedVariables false
def ocells (ys : List OpAt) : List Value := ys.flatMap OpAt.cells
theorem ocell_len (y : OpAt) : y.cells.length = 6 := rfl
theorem ocells_len (ys : List OpAt) : (ocells ys).length = ys.length * 6 := flat_len_of ocell_len ys
theorem ocells_at (l : List OpAt) (k r : Nat) (hk : k < l.length) (hr : r < 6) : (ocells l)[k * 6 + r]? = l[k].cells[r]? := by
  unfold ocells
  rw [flat_at ocell_len (by decide), show (k * 6 + r) / 6 = k by omega, show (k * 6 + r) % 6 = r by omega, List.getElem?_eq_getElem hk]
  rfl
theorem ocells_one (ys : List OpAt) : OneCells (ocells ys) := by
  intro u hu
  simp only [ocells, List.mem_flatMap] at hu
  obtain ⟨y, _, hu⟩ := hu
  simp only [OpAt.cells, LOp.cells, List.mem_cons, List.not_mem_nil, or_false] at hu
  rcases hu with rfl | rfl | rfl | rfl | rfl | rfl <;> rfl
/-- An op of the row, read. -/
theorem Reads.op {w : World} {B : Nat} {A : Option Addr} {l : List OpAt} (h : Reads w B 6 A l.length (ocells l)) {k : Nat} (hk : k < l.length) :
    ∃ ad, A = some ad ∧ ad.block < B ∧ w.cell? (ad.add (k * 6)) = some (.int .i64 l[k].op.dot.who) ∧ w.cell? ⟨(ad.add (k * 6)).block, (ad.add (k * 6)).off + 1, none⟩ = some (.int .i64 l[k].op.dot.n) ∧
      w.cell? ⟨(ad.add (k * 6)).block, (ad.add (k * 6)).off + 2, none⟩ = some (.int .i64 l[k].op.what) ∧ w.cell? ⟨(ad.add (k * 6)).block, (ad.add (k * 6)).off + 3, none⟩ = some (.string l[k].op.place) ∧
      w.cell? ⟨(ad.add (k * 6)).block, (ad.add (k * 6)).off + 4, none⟩ = some (.int .i64 l[k].op.letter) ∧ w.cell? ⟨(ad.add (k * 6)).block, (ad.add (k * 6)).off + 5, none⟩ = some (.slice l[k].at_ l[k].op.seen.length l[k].cap) := by
  obtain ⟨ad, e, hb, hc⟩ := h.2 (by omega)
  have key : ∀ r u, 0 < r → r < 6 → l[k].cells[r]? = some u → w.cell? ⟨(ad.add (k * 6)).block, (ad.add (k * 6)).off + r, none⟩ = some u := fun r u h0 hr hu => by
    have e1 : (⟨(ad.add (k * 6)).block, (ad.add (k * 6)).off + r, none⟩ : Addr) = (ad.add (k * 6)).add r := by unfold Addr.add; rw [if_neg (by omega : ¬ r = 0)]
    rw [e1, add_of_add]
    exact hc _ _ (by rw [ocells_at l k r hk hr]; exact hu)
  refine ⟨ad, e, hb, ?_, key 1 _ (by omega) (by omega) rfl, key 2 _ (by omega) (by omega) rfl, key 3 _ (by omega) (by omega) rfl, key 4 _ (by omega) (by omega) rfl, key 5 _ (by omega) (by omega) rfl⟩
  exact hc _ _ (by rw [show k * 6 = k * 6 + 0 from rfl, ocells_at l k 0 hk (by omega)]; rfl)
section
variable {H : Type} {enc : TypeId × Value → H} {w : World} {base : Nat} {spare : Nat → Bool} {held : Bool}
theorem open_ops {fuel : Nat} {cs : List Value} {x : DataW H × List MemPlace} (h : DataW.trod enc Tryz.prog w base spare held fuel 22 cs = some x) :
    ∃ (A : Option Addr) (cap : Nat) (l : List OpAt), cs = [.slice A l.length cap] ∧ Reads w w.heap.size 6 A l.length (ocells l) ∧ (∀ y ∈ l, y.Good w) ∧ l.length ≤ cap ∧ cap ≤ maxLen :=
  open_list OpAt.cells (OpAt.Good w) Tryz.underlying22 cellsOp (by decide) ocell_len (fun _ _ _ h => open_op h) h
set_option maxRecDepth 100000 in
theorem arg_ops {r : Reach} {b0 : Nat} {v : Value} {d : DataW H} {p : List MemPlace} (hv : Value.okWide Tryz.prog w r b0 22 v) (h : DataW.Trod enc Tryz.prog w base spare held 22 v d p) :
    ∃ (A : Option Addr) (cap : Nat) (l : List OpAt), v = .slice A l.length cap ∧ Reads w w.heap.size 6 A l.length (ocells l) ∧ (∀ y ∈ l, y.Good w) ∧ l.length ≤ cap ∧ cap ≤ maxLen := by
  obtain ⟨a, len, c, rfl⟩ := okWide_slice Tryz.underlying22 hv
  obtain ⟨fuel, hf⟩ := h
  obtain ⟨A, cap, l, e, hr⟩ := open_ops hf
  refine ⟨A, cap, l, ?_, hr⟩
  have e' : [Value.slice a len c] = [.slice A l.length cap] := e
  injection e'
end
theorem OpAt.Good.below {w w' : World} {y : OpAt} (h : y.Good w) (hb : Below w.heap.size w w') : y.Good w' := ⟨(h.1.below hb).more hb.size, h.2⟩
end Go.Proofs.YtkaccnegdmpofaaGreatDoor
/- Rows of texts. Plain lemmas. Conditions: none. -/
namespace Go.Proofs.YtkaccnegdmpofaaGreatDoor
open Go.RowKit
set_option linter.unusedVariables false
def strs (l : List ByteArray) : List Value := l.map Value.string
theorem oneCells_strs (l : List ByteArray) : OneCells (strs l) := by
  intro u hu
  obtain ⟨s, _, rfl⟩ := List.mem_map.1 hu
  rfl
theorem strs_len (l : List ByteArray) : (strs l).length = l.length := by simp [strs]
theorem strs_get {l : List ByteArray} {i : Nat} (h : i < l.length) : (strs l)[i]? = some (.string l[i]) := by simp [strs, h]
end Go.Proofs.YtkaccnegdmpofaaGreatDoor
/- Texts that are the same. Plain lemmas. Conditions: none. -/
namespace Go.Proofs.YtkaccnegdmpofaaGreatDoor
open Go.RowKit
set_option linter.unusedVariables false
def SamePost (w : World) (b : Bool) (e : Ending) (w' : World) : Prop := e = .returned (.bool b) ∧ Below w.heap.size w w'
theorem Reads.text {w : World} {B : Nat} {A : Option Addr} {l : List ByteArray} (h : Reads w B 1 A l.length (strs l)) {k : Nat} (hk : k < l.length) : ∃ ad, A = some ad ∧ ad.block < B ∧ w.cell? (ad.add k) = some (.string l[k]) := by
  obtain ⟨ad, u, e, hb, hu, hc⟩ := h.at_ hk
  rw [strs_get hk] at hu
  injection hu with hu
  subst hu
  exact ⟨ad, e, hb, hc⟩
theorem same_toList {a b : ByteArray} : (a.toList = b.toList) ↔ a = b := by
  constructor
  · intro h
    rw [ByteArray.toList_eq, ByteArray.toList_eq] at h
    exact ByteArray.ext (Array.ext' h)
  · rintro rfl; rfl
end Go.Proofs.YtkaccnegdmpofaaGreatDoor
/- A right place is short; a store into an owned row. Plain. Conditions: none. -/
namespace Go.Proofs.YtkaccnegdmpofaaGreatDoor
open Go.RowKit
set_option linter.unusedVariables false
theorem place_small {p : ByteArray} (h : placeErr p = 0) : p.size ≤ 12 := by
  unfold placeErr at h
  by_cases h1 : 12 < p.size
  · rw [if_pos h1] at h; omega
  · omega
theorem Own.storeN {w : World} {B : Nat} {e : TypeId} {g n c size : Nat} {xs : List Value} (h : Own w B e size (some ⟨g, 0, none⟩) n c xs) {k : Nat} (hk : k < n * size) (u : Value) : Own (w.setCell ⟨g, k, none⟩ u) B e size (some ⟨g, 0, none⟩) n c (xs.set k u) := by
  obtain ⟨h1, h2⟩ := h
  refine ⟨by rw [List.length_set]; exact h1, ?_⟩
  rcases h2 with ⟨h2, _⟩ | ⟨g', cap, cur, e1, e2, e3, e4, e5, e6, e7⟩
  · cases h2
  · injection e1 with e1 _ ec
    injection e1 with e1
    injection e1 with e1
    subst e1 ec
    refine .inr ⟨g, c, cur.setIfInBounds k u, rfl, e2, Blk.set_ (t := e) e3 k u, e4, e5, by simpa using e6, ?_⟩
    rw [Array.toList_setIfInBounds, ← e7, List.take_set]
def zeros8 : Array Value := #[.int .i64 0, .int .i64 0, .int .i64 0, .int .i64 0, .int .i64 0, .int .i64 0, .int .i64 0, .int .i64 0]
end Go.Proofs.YtkaccnegdmpofaaGreatDoor

/- 6 texts in one: each says ahead of itself what is proved, and its conditions. -/
import Derived.Test.YthfbjfocmnikaaaGreatDoorEditLaw
import Derived.Test.YthfbjfocmnikaaaGreatDoorMem
import Derived.Test.YthfbjfocmnikaaaGreatDoorOpenOp
import Derived.Test.YthfbjfocmnikaaaGreatDoorPlaceCheck
import Derived.Test.YthfbjfocmnikaaaGreatDoorVecAdd
/- What two authors write at once: plain. Conditions: none. -/
namespace Go.Proofs.YthfbjfocmnikaaaGreatDoor
open Go.RowKit
set_option linter.unusedVariables false
/-- The letters of a text stand in a book, in their order. -/
structure Stand (L : List LLeaf) (x : List LOp) (t : List UInt8) : Prop where
  len : x.length = t.length
  at_ : ∀ i (hi : i < x.length) (ht : i < t.length), hasAt L x[i].place = true ∧ ∃ h : ahead L x[i].place < L.length, L[ahead L x[i].place].letter = (t[i].toNat : Int) ∧ L[ahead L x[i].place].struck = false
  rise : ∀ i j (hj : j < x.length) (hi : i < x.length), i < j → ahead L x[i].place < ahead L x[j].place
theorem typedOps_each (who : Int) (right : ByteArray) : ∀ (t : List UInt8) (left : ByteArray) (n : Int), ∀ o ∈ typedOps who right t left n, o.dot.who = who ∧ o.what = 1 ∧ o.seen = []
  | [], _, _ => fun o ho => by simp [typedOps] at ho
  | c :: t, left, n => fun o ho => by
    rw [typedOps] at ho
    rcases List.mem_cons.1 ho with rfl | ho
    · exact ⟨rfl, rfl, rfl⟩
    · exact typedOps_each who right t _ _ o ho
theorem typedOps_letters (who : Int) (right : ByteArray) : ∀ (t : List UInt8) (left : ByteArray) (n : Int), (typedOps who right t left n).map LOp.letter = t.map fun c => (c.toNat : Int)
  | [], _, _ => rfl
  | c :: t, left, n => by rw [typedOps, List.map_cons, List.map_cons, typedOps_letters who right t]
namespace LDoc
theorem ins_each {d : LDoc} {who off : Int} {text : ByteArray} (h : d.insE who off text = 0) : (∀ o ∈ d.insR who off text, o.dot.who = who ∧ o.what = 1 ∧ o.seen = []) ∧ (d.insR who off text).map LOp.letter = text.toList.map fun c => (c.toNat : Int) := by
  obtain ⟨h1, h2, h3, h4⟩ := ins_ok h
  rw [h3]
  exact ⟨typedOps_each _ _ _ _ _, typedOps_letters _ _ _ _ _⟩
theorem ins_none {d : LDoc} (hk : d.Ok) {who off : Int} {text : ByteArray} (h : d.insE who off text = 0) (hd : d.doE (d.insR who off text) = 0) :
    (∀ o ∈ d.insR who off text, hasAt d.book o.place = false) ∧ (d.insR who off text).Pairwise (fun x y => lt x.place y.place = true) := by
  obtain ⟨a, b, e1, e2, e3, e4, e5, e6, e7, e8, e9⟩ := ins_does hk h hd
  refine ⟨fun o ho => ?_, ?_⟩
  · have hr := hk.book.rising
    rw [e1] at hr ⊢
    exact gap_none hr (fun x hx => e8 x hx o ho) (fun x hx => e9 x hx o ho)
  · have hr := rising_pair.1 (doR_ok (d.insR who off text) hk).book.rising
    rw [e3, List.pairwise_append, List.pairwise_append] at hr
    exact List.pairwise_map.1 hr.1.2.1
end LDoc
end Go.Proofs.YthfbjfocmnikaaaGreatDoor
/- What one document lacks of another one, and what comes of giving it: plain. Conditions: none. -/
namespace Go.Proofs.YthfbjfocmnikaaaGreatDoor
open Go.RowKit
set_option linter.unusedVariables false
/-- Ops that a vector does not know. -/
def lacksB (v : List Int) (o : LOp) : Bool := decide (nOf v o.dot < o.dot.n)
def lacksR (l : List LOp) (v : List Int) : List LOp := l.filter (lacksB v)
namespace LDoc
/-- How many of some ops are new. -/
def takeN (d : LDoc) : List LOp → Int
  | [] => 0
  | o :: t => if d.applyE o ≠ 0 then 0 else (if d.applyB o = true then 1 else 0) + (d.apply o).takeN t
end LDoc
theorem numbered_known {l : List LOp} {d : LDoc} (hk : d.Ok) (hs : Says d.ops d) (hn : Numbered l) (i : Int) (hi : dotErr ⟨i, 1⟩ = 0) : ofWho i (lacksR l d.known) = (ofWho i l).drop (ofWho i d.ops).length := by
  have hk2 : ∀ o ∈ ofWho i l, nOf d.known o.dot = ((ofWho i d.ops).length : Int) := fun o ho => by
    have hw := (mem_ofWho.1 ho).2
    rw [nOf_who d.known (show o.dot.who = (⟨i, 1⟩ : LDot).who from hw), hs.known _ hi]
  have e1 : ofWho i (lacksR l d.known) = (ofWho i l).filter (lacksB d.known) := by
    unfold ofWho lacksR
    rw [List.filter_filter, List.filter_filter]
    congr 1
    funext o
    exact Bool.and_comm _ _
  rw [e1]
  generalize hp : (ofWho i d.ops).length = p at *
  have hnum := hn i
  generalize ofWho i l = m at *
  have key : ∀ (m : List LOp) (s : Nat), (∀ (k : Nat) (o : LOp), m[k]? = some o → o.dot.n = (k : Int) + s + 1) → (∀ o ∈ m, nOf d.known o.dot = (p : Int)) → m.filter (lacksB d.known) = m.drop (p - s) := by
    intro m
    induction m with
    | nil => intro s _ _; simp
    | cons o m ih =>
      intro s h1 h2
      have h0 := h1 0 o rfl
      have hi2 := ih (s + 1) (fun k x hx => by have := h1 (k + 1) x (by simpa using hx); push_cast at this ⊢; omega) (fun x hx => h2 x (by simp [hx]))
      have hb : lacksB d.known o = decide (p ≤ s) := by
        unfold lacksB
        rw [h2 o (by simp), h0]
        congr 1
        apply propext
        push_cast
        omega
      rw [List.filter_cons, hb]
      by_cases hps : p ≤ s
      · rw [if_pos (decide_eq_true hps), hi2, show p - (s + 1) = 0 by omega, show p - s = 0 by omega]; rfl
      · rw [if_neg (by simpa using hps), hi2, show p - s = (p - (s + 1)) + 1 by omega]; rfl
  have := key m 0 (fun k o ho => by have := hnum k o ho; simpa using this) hk2
  simpa using this
namespace LDoc
end LDoc
end Go.Proofs.YthfbjfocmnikaaaGreatDoor
/- Arguments opened: lists of ops. Plain lemmas. Conditions: none of our own. -/
namespace Go.Proofs.YthfbjfocmnikaaaGreatDoor
open Go.RowKit Go.WideShapes Go.ChangeShapes Go.Deep
set_option linter.unusedVariables false
def ocells (ys : List OpAt) : List Value := ys.flatMap OpAt.cells
theorem ocell_len (y : OpAt) : y.cells.length = 6 := rfl
theorem ocells_len (ys : List OpAt) : (ocells ys).length = ys.length * 6 := flat_len_of ocell_len ys
theorem ocells_at (l : List OpAt) (k r : Nat) (hk : k < l.length) (hr : r < 6) : (ocells l)[k * 6 + r]? = l[k].cells[r]? := by
  unfold ocells
  rw [flat_at ocell_len (by decide), show (k * 6 + r) / 6 = k by omega, show (k * 6 + r) % 6 = r by omega, List.getElem?_eq_getElem hk]
  rfl
theorem ocells_one (ys : List OpAt) : OneCells (ocells ys) := by
  intro u hu
  simp only [ocells, List.mem_flatMap] at hu
  obtain ⟨y, _, hu⟩ := hu
  simp only [OpAt.cells, LOp.cells, List.mem_cons, List.not_mem_nil, or_false] at hu
  rcases hu with rfl | rfl | rfl | rfl | rfl | rfl <;> rfl
/-- An op of the row, read. -/
theorem Reads.op {w : World} {B : Nat} {A : Option Addr} {l : List OpAt} (h : Reads w B 6 A l.length (ocells l)) {k : Nat} (hk : k < l.length) :
    ∃ ad, A = some ad ∧ ad.block < B ∧ w.cell? (ad.add (k * 6)) = some (.int .i64 l[k].op.dot.who) ∧ w.cell? ⟨(ad.add (k * 6)).block, (ad.add (k * 6)).off + 1, none⟩ = some (.int .i64 l[k].op.dot.n) ∧
      w.cell? ⟨(ad.add (k * 6)).block, (ad.add (k * 6)).off + 2, none⟩ = some (.int .i64 l[k].op.what) ∧ w.cell? ⟨(ad.add (k * 6)).block, (ad.add (k * 6)).off + 3, none⟩ = some (.string l[k].op.place) ∧
      w.cell? ⟨(ad.add (k * 6)).block, (ad.add (k * 6)).off + 4, none⟩ = some (.int .i64 l[k].op.letter) ∧ w.cell? ⟨(ad.add (k * 6)).block, (ad.add (k * 6)).off + 5, none⟩ = some (.slice l[k].at_ l[k].op.seen.length l[k].cap) := by
  obtain ⟨ad, e, hb, hc⟩ := h.2 (by omega)
  have key : ∀ r u, 0 < r → r < 6 → l[k].cells[r]? = some u → w.cell? ⟨(ad.add (k * 6)).block, (ad.add (k * 6)).off + r, none⟩ = some u := fun r u h0 hr hu => by
    have e1 : (⟨(ad.add (k * 6)).block, (ad.add (k * 6)).off + r, none⟩ : Addr) = (ad.add (k * 6)).add r := by unfold Addr.add; rw [if_neg (by omega : ¬ r = 0)]
    rw [e1, add_of_add]
    exact hc _ _ (by rw [ocells_at l k r hk hr]; exact hu)
  refine ⟨ad, e, hb, ?_, key 1 _ (by omega) (by omega) rfl, key 2 _ (by omega) (by omega) rfl, key 3 _ (by omega) (by omega) rfl, key 4 _ (by omega) (by omega) rfl, key 5 _ (by omega) (by omega) rfl⟩
  exact hc _ _ (by rw [show k * 6 = k * 6 + 0 from rfl, ocells_at l k 0 hk (by omega)]; rfl)
section
variable {H : Type} {enc : TypeId × Value → H} {w : World} {base : Nat} {spare : Nat → Bool} {held : Bool}
end
theorem OpAt.Good.below {w w' : World} {y : OpAt} (h : y.Good w) (hb : Below w.heap.size w w') : y.Good w' := ⟨(h.1.below hb).more hb.size, h.2⟩
end Go.Proofs.YthfbjfocmnikaaaGreatDoor
/- Rows of texts. Plain lemmas. Conditions: none. -/
namespace Go.Proofs.YthfbjfocmnikaaaGreatDoor
open Go.RowKit
set_option linter.unusedVariables false
def strs (l : List ByteArray) : List Value := l.map Value.string
theorem oneCells_strs (l : List ByteArray) : OneCells (strs l) := by
  intro u hu
  obtain ⟨s, _, rfl⟩ := List.mem_map.1 hu
  rfl
theorem strs_get {l : List ByteArray} {i : Nat} (h : i < l.length) : (strs l)[i]? = some (.string l[i]) := by simp [strs, h]
end Go.Proofs.YthfbjfocmnikaaaGreatDoor
/- Texts that are the same. Plain lemmas. Conditions: none. -/
namespace Go.Proofs.YthfbjfocmnikaaaGreatDoor
open Go.RowKit
set_option linter.unusedVariables false
def SamePost (w : World) (b : Bool) (e : Ending) (w' : World) : Prop := e = .returned (.bool b) ∧ Below w.heap.size w w'
theorem Reads.text {w : World} {B : Nat} {A : Option Addr} {l : List ByteArray} (h : Reads w B 1 A l.length (strs l)) {k : Nat} (hk : k < l.length) : ∃ ad, A = some ad ∧ ad.block < B ∧ w.cell? (ad.add k) = some (.string l[k]) := by
  obtain ⟨ad, u, e, hb, hu, hc⟩ := h.at_ hk
  rw [strs_get hk] at hu
  injection hu with hu
  subst hu
  exact ⟨ad, e, hb, hc⟩
theorem same_toList {a b : ByteArray} : (a.toList = b.toList) ↔ a = b := by
  constructor
  · intro h
    rw [ByteArray.toList_eq, ByteArray.toList_eq] at h
    exact ByteArray.ext (Array.ext' h)
  · rintro rfl; rfl
end Go.Proofs.YthfbjfocmnikaaaGreatDoor
/- A right place is short; a store into an owned row. Plain. Conditions: none. -/
namespace Go.Proofs.YthfbjfocmnikaaaGreatDoor
open Go.RowKit
set_option linter.unusedVariables false
theorem place_small {p : ByteArray} (h : placeErr p = 0) : p.size ≤ 12 := by
  unfold placeErr at h
  by_cases h1 : 12 < p.size
  · rw [if_pos h1] at h; omega
  · omega
theorem Own.storeN {w : World} {B : Nat} {e : TypeId} {g n c size : Nat} {xs : List Value} (h : Own w B e size (some ⟨g, 0, none⟩) n c xs) {k : Nat} (hk : k < n * size) (u : Value) : Own (w.setCell ⟨g, k, none⟩ u) B e size (some ⟨g, 0, none⟩) n c (xs.set k u) := by
  obtain ⟨h1, h2⟩ := h
  refine ⟨by rw [List.length_set]; exact h1, ?_⟩
  rcases h2 with ⟨h2, _⟩ | ⟨g', cap, cur, e1, e2, e3, e4, e5, e6, e7⟩
  · cases h2
  · injection e1 with e1 _ ec
    injection e1 with e1
    injection e1 with e1
    subst e1 ec
    refine .inr ⟨g, c, cur.setIfInBounds k u, rfl, e2, Blk.set_ (t := e) e3 k u, e4, e5, by simpa using e6, ?_⟩
    rw [Array.toList_setIfInBounds, ← e7, List.take_set]
def zeros8 : Array Value := #[.int .i64 0, .int .i64 0, .int .i64 0, .int .i64 0, .int .i64 0, .int .i64 0, .int .i64 0, .int .i64 0]
end Go.Proofs.YthfbjfocmnikaaaGreatDoor

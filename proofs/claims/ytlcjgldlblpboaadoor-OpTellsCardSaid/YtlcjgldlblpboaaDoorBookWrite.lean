/- 3 texts in one: each says ahead of itself what is proved, and its conditions. -/
import Derived.Test.YtlcjgldlblpboaaDoorBookAt
import Derived.Test.YtlcjgldlblpboaaDoorInsLeaf
import Derived.Test.YtlcjgldlblpboaaDoorLess
import Derived.Test.YtlcjgldlblpboaaDoorShelfCmp
/- book.Find, walked. Conditions: a book that is right. -/
namespace Go.Proofs.YtlcjgldlblpboaaDoor
open Go.RowKit
set_option linter.unusedVariables false

/-- Places rise, whatever the two. -/
theorem rising_lt {l : List LLeaf} (h : Rising l) : ∀ i j (hi : i < l.length) (hj : j < l.length), i < j → Op.bytesLess l[i].place.toList l[j].place.toList = true := by
  induction l with
  | nil => intro i j hi; simp at hi
  | cons x l ih =>
    obtain ⟨h1, h2⟩ := h
    have first : ∀ j (hj : j < l.length), Op.bytesLess x.place.toList l[j].place.toList = true := by
      intro j hj
      cases l with
      | nil => simp at hj
      | cons y l =>
        have h3 := h1 y rfl
        cases j with
        | zero => exact h3
        | succ j => exact less_trans _ _ _ h3 (ih h2 0 (j + 1) (by simp) hj (by omega))
    intro i j hi hj hij
    cases j with
    | zero => omega
    | succ j =>
      cases i with
      | zero => exact first j (by simpa using hj)
      | succ i => exact ih h2 i j (by simpa using hi) (by simpa using hj) (by omega)
/-- How many leafs are ahead of a place. -/
def ahead (l : List LLeaf) (p : ByteArray) : Nat := (l.filter fun x => Op.bytesLess x.place.toList p.toList).length
def hasAt (l : List LLeaf) (p : ByteArray) : Bool := match l[ahead l p]? with
  | some x => x.place.toList == p.toList
  | none => false
theorem ahead_of {l : List LLeaf} {p : ByteArray} {i : Nat} (hi : i ≤ l.length) (h1 : ∀ j (hj : j < l.length), j < i → Op.bytesLess l[j].place.toList p.toList = true) (h2 : ∀ j (hj : j < l.length), i ≤ j → Op.bytesLess l[j].place.toList p.toList = false) : ahead l p = i := by
  unfold ahead
  have e : l = l.take i ++ l.drop i := (List.take_append_drop i l).symm
  have e1 : (l.take i).filter (fun x => Op.bytesLess x.place.toList p.toList) = l.take i := by
    rw [List.filter_eq_self]
    intro x hx
    obtain ⟨j, hj, rfl⟩ := List.getElem_of_mem hx
    rw [List.length_take] at hj
    simp only [List.getElem_take]
    exact h1 j (by omega) (by omega)
  have e2 : (l.drop i).filter (fun x => Op.bytesLess x.place.toList p.toList) = [] := by
    rw [List.filter_eq_nil_iff]
    intro x hx
    obtain ⟨j, hj, rfl⟩ := List.getElem_of_mem hx
    rw [List.length_drop] at hj
    simp only [List.getElem_drop]
    rw [h2 (i + j) (by omega) (by omega)]
    simp
  rw [e, List.filter_append, e1, e2, List.append_nil, List.length_take]
  omega
theorem ahead_le (l : List LLeaf) (p : ByteArray) : ahead l p ≤ l.length := List.length_filter_le _ _

def FindLoop (w : World) (l : List LLeaf) (p : ByteArray) (x y : Value) (wr : World) : Prop :=
  ∃ i j : Nat, i ≤ j ∧ j ≤ l.length ∧ x = .int .i64 i ∧ y = .int .i64 j ∧ Hid (Below w.heap.size w wr) ∧
    Hid (∀ k (hk : k < l.length), k < i → Op.bytesLess l[k].place.toList p.toList = true) ∧ Hid (∀ k (hk : k < l.length), j ≤ k → Op.bytesLess l[k].place.toList p.toList = false)
def FindPost (w : World) (l : List LLeaf) (p : ByteArray) (e : Ending) (w' : World) : Prop := e = .returned (.tuple #[.int .i64 (ahead l p : Int), .bool (hasAt l p)]) ∧ Below w.heap.size w w'
theorem toList_data (s : ByteArray) : s.toList = s.data.toList := ByteArray.toList_eq ..

end Go.Proofs.YtlcjgldlblpboaaDoor
/- slices.Clone of leafs, book.put, book.ready, walked. Conditions: a book that is not too long. -/
namespace Go.Proofs.YtlcjgldlblpboaaDoor
open Go.RowKit
set_option linter.unusedVariables false
def ClonePost (w : World) (e0 : TypeId) (size n : Nat) (xs : List Value) (e : Ending) (w' : World) : Prop := ∃ A' c', e = .returned (.slice A' n c') ∧ Own w' w.heap.size e0 size A' n c' xs ∧ Below w.heap.size w w'
/-- A book with one leaf more. -/
def bookPut (l : List LLeaf) (i : Nat) (x : LLeaf) : List LLeaf := l.take i ++ x :: l.drop i
theorem lcells_take (l : List LLeaf) (i : Nat) : (lcells l).take (i * 3) = lcells (l.take i) := by
  induction l generalizing i with
  | nil => simp [lcells]
  | cons x l ih =>
    cases i with
    | zero => simp [lcells]
    | succ i =>
      show (x.cells ++ lcells l).take ((i + 1) * 3) = x.cells ++ lcells (l.take i)
      rw [← ih, List.take_append, List.take_of_length_le (by simp [LLeaf.cells]; omega), show (i + 1) * 3 - x.cells.length = i * 3 by simp [LLeaf.cells]; omega]
theorem lcells_drop (l : List LLeaf) (i : Nat) : (lcells l).drop (i * 3) = lcells (l.drop i) := by
  induction l generalizing i with
  | nil => simp [lcells]
  | cons x l ih =>
    cases i with
    | zero => simp [lcells]
    | succ i =>
      show (x.cells ++ lcells l).drop ((i + 1) * 3) = lcells (l.drop i)
      rw [← ih, List.drop_append, List.drop_of_length_le (by simp [LLeaf.cells]; omega), show (i + 1) * 3 - x.cells.length = i * 3 by simp [LLeaf.cells]; omega, List.nil_append]
theorem lcells_put (l : List LLeaf) (i : Nat) (x : LLeaf) : (lcells l).take (i * 3) ++ x.cells ++ (lcells l).drop (i * 3) = lcells (bookPut l i x) := by
  rw [lcells_take, lcells_drop]; simp [bookPut, lcells]
theorem bookPut_len (l : List LLeaf) (i : Nat) (x : LLeaf) (hi : i ≤ l.length) : (bookPut l i x).length = l.length + 1 := by simp [bookPut]; omega

theorem blk_new_at {w : World} {k : Nat} {t : TypeId} {cs : Array Value} (h : w.heap.size = k) : Blk (w.alloc (.cells cs t)) k t cs := h ▸ Blk.new w t cs
def putErr (l : List LLeaf) : Int := if 300 ≤ l.length then 4 else 0
def putRes (l : List LLeaf) (i : Nat) (x : LLeaf) : List LLeaf := if 300 ≤ l.length then [] else bookPut l i x
end Go.Proofs.YtlcjgldlblpboaaDoor
/- book.ready, book.Write, book.Strike, book.Offset, walked. Conditions: places that an int may count. -/
namespace Go.Proofs.YtlcjgldlblpboaaDoor
open Go.RowKit
set_option linter.unusedVariables false
/-- What is wrong with a book, and a place. -/
def bookReady (l : List LLeaf) (p : ByteArray) : Int := if bookErr l ≠ 0 then bookErr l else placeErr p
theorem bready_ok {l : List LLeaf} {p : ByteArray} (h : bookReady l p = 0) : BookOk l ∧ placeErr p = 0 := by
  unfold bookReady at h
  by_cases he : bookErr l ≠ 0
  · rw [if_pos he] at h; exact absurd h he
  · rw [if_neg he] at h; exact ⟨book_ok (by omega), h⟩

def OffPost (w : World) (n k : Int) (e : Ending) (w' : World) : Prop := e = .returned (.tuple #[.int .i64 n, errV k]) ∧ Below w.heap.size w w'
/-- The offset of a place. -/
def offOf (l : List LLeaf) (p : ByteArray) : Int := if bookReady l p = 0 then ((textOf (l.take (ahead l p))).size : Int) else 0
def LLeaf.write (x : LLeaf) (n : Int) : LLeaf := ⟨x.place, n, x.struck⟩
def LLeaf.strike (x : LLeaf) : LLeaf := ⟨x.place, x.letter, true⟩
def leafAt (l : List LLeaf) (p : ByteArray) : LLeaf := l.getD (ahead l p) default
theorem hasAt_lt {l : List LLeaf} {p : ByteArray} (h : hasAt l p = true) : ahead l p < l.length := by
  unfold hasAt at h
  rcases Nat.lt_or_ge (ahead l p) l.length with h1 | h1
  · exact h1
  · rw [List.getElem?_eq_none h1] at h; cases h
theorem lcells_letter (l : List LLeaf) (i : Nat) (hi : i < l.length) (n : Int) : (lcells l).set (i * 3 + 1) (.int .i64 n) = lcells (l.set i (l[i].write n)) := by
  induction l generalizing i with
  | nil => simp at hi
  | cons x l ih =>
    cases i with
    | zero => rfl
    | succ i =>
      show (x.cells ++ lcells l).set ((i + 1) * 3 + 1) _ = x.cells ++ lcells (l.set i ((l[i]'(by simpa using hi)).write n))
      rw [← ih i (by simpa using hi), List.set_append_right _ _ (by simp [LLeaf.cells]; omega), show (i + 1) * 3 + 1 - x.cells.length = i * 3 + 1 by simp [LLeaf.cells]; omega]
theorem lcells_struck (l : List LLeaf) (i : Nat) (hi : i < l.length) : (lcells l).set (i * 3 + 2) (.bool true) = lcells (l.set i l[i].strike) := by
  induction l generalizing i with
  | nil => simp at hi
  | cons x l ih =>
    cases i with
    | zero => rfl
    | succ i =>
      show (x.cells ++ lcells l).set ((i + 1) * 3 + 2) _ = x.cells ++ lcells (l.set i (l[i]'(by simpa using hi)).strike)
      rw [← ih i (by simpa using hi), List.set_append_right _ _ (by simp [LLeaf.cells]; omega), show (i + 1) * 3 + 2 - x.cells.length = i * 3 + 2 by simp [LLeaf.cells]; omega]
/-- A book in which a letter is written; what is wrong. -/
def writeRes (l : List LLeaf) (p : ByteArray) (n : Int) : List LLeaf := if hasAt l p = true then l.set (ahead l p) ((leafAt l p).write n) else bookPut l (ahead l p) ⟨p, n, false⟩
def writeErr (l : List LLeaf) (p : ByteArray) (n : Int) : Int :=
  if bookReady l p ≠ 0 then bookReady l p else if letterB n = false then 1 else if hasAt l p = false then putErr l else if (leafAt l p).letter ≠ 0 ∧ (leafAt l p).letter ≠ n then 7 else 0
def strikeRes (l : List LLeaf) (p : ByteArray) : List LLeaf := if hasAt l p = true then l.set (ahead l p) (leafAt l p).strike else bookPut l (ahead l p) ⟨p, 0, true⟩
def strikeErr (l : List LLeaf) (p : ByteArray) : Int := if bookReady l p ≠ 0 then bookReady l p else if hasAt l p = false then putErr l else 0
def giveL (k : Int) (l : List LLeaf) : List LLeaf := if k = 0 then l else []
theorem giveL_bad {k : Int} (h : k ≠ 0) (l : List LLeaf) : giveL k l = [] := if_neg h
theorem putRes_give (l : List LLeaf) (i : Nat) (x : LLeaf) : putRes l i x = giveL (putErr l) (bookPut l i x) := by
  unfold putRes giveL putErr
  by_cases h : 300 ≤ l.length <;> simp [h]
end Go.Proofs.YtlcjgldlblpboaaDoor

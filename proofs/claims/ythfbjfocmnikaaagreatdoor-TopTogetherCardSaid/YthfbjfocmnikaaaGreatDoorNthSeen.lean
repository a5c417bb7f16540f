/- 2 texts in one: each says ahead of itself what is proved, and its conditions. -/
import Derived.Test.YthfbjfocmnikaaaGreatDoorBookAt
import Derived.Test.YthfbjfocmnikaaaGreatDoorDocGo
import Derived.Test.YthfbjfocmnikaaaGreatDoorMarkSeen
import Derived.Test.YthfbjfocmnikaaaGreatDoorPlace4
/- Edits of a document: which ops they are, and ops done one behind the other. Plain. Conditions: none. -/
namespace Go.Proofs.YthfbjfocmnikaaaGreatDoor
open Go.RowKit
set_option linter.unusedVariables false
/-- A maker of an author's next ops. -/
structure LMk where
  who : Int
  n : Int
  ops : List LOp
namespace LMk
def put (m : LMk) (o : LOp) : LOp := ⟨⟨m.who, m.n + 1⟩, o.what, o.place, o.letter, o.seen⟩
def add (m : LMk) (o : LOp) : LMk := ⟨m.who, m.n + 1, m.ops ++ [m.put o]⟩
def wr (m : LMk) (p : ByteArray) (c : Int) : LMk := m.add ⟨⟨0, 0⟩, 1, p, c, []⟩
def st (m : LMk) (p : ByteArray) : LMk := m.add ⟨⟨0, 0⟩, 2, p, 0, []⟩
def next (m : LMk) (left right : ByteArray) : ByteArray := strOf (betweenRes left right m.who)
/-- Letters one behind the other: the maker then, and what is wrong. -/
def typed (right : ByteArray) : List UInt8 → ByteArray → LMk → LMk × Int
  | [], _, m => (m, 0)
  | c :: t, left, m => if betweenErr left right m.who ≠ 0 then (m, betweenErr left right m.who) else typed right t (m.next left right) (m.wr (m.next left right) c.toNat)
/-- Letters from one offset to another one are struck. -/
def strikes (a b : Int) : List LLeaf → Int → LMk → LMk
  | [], _, m => m
  | x :: l, at_, m => if seenB x = true then strikes a b l (at_ + 1) (if a ≤ at_ ∧ at_ < b then m.st x.place else m) else strikes a b l at_ m
end LMk
def idxOf (l : List LLeaf) (off : Int) : Nat := if 0 < off then (nthFrom 0 l (off - 1)).toNat + 1 else 0
def leftOf (l : List LLeaf) (off : Int) : ByteArray := if 0 < off then (l.getD ((nthFrom 0 l (off - 1)).toNat) default).place else ⟨#[]⟩
def rightOf (l : List LLeaf) (i : Nat) : ByteArray := if i < l.length then (l.getD i default).place else ⟨#[]⟩
def badC (c : UInt8) : Bool := !letterB (c.toNat : Int)
def insErr (l : List LLeaf) (off : Int) (text : ByteArray) : Int := if 200 < text.size then 4 else if text.toList.any badC = true then 1 else if off < 0 ∨ ((textOf l).size : Int) < off then 1 else 0
namespace LMk
def ins (m : LMk) (l : List LLeaf) (off : Int) (text : ByteArray) : LMk × Int := if insErr l off text ≠ 0 then (m, insErr l off text) else typed (rightOf l (idxOf l off)) text.toList (leftOf l off) m
def del (m : LMk) (l : List LLeaf) (a b : Int) : LMk × Int := if a < 0 ∨ b < a ∨ ((textOf l).size : Int) < b then (m, 1) else (strikes a b l 0 m, 0)
end LMk
namespace LDoc
def maker (d : LDoc) (who : Int) : LMk := ⟨who, nOf d.known ⟨who, 0⟩, []⟩
def whoE (who : Int) : Int := if who < 1 ∨ 8 < who then 1 else 0
def insE (d : LDoc) (who off : Int) (text : ByteArray) : Int := if whoE who ≠ 0 then 1 else ((d.maker who).ins d.book off text).2
def insR (d : LDoc) (who off : Int) (text : ByteArray) : List LOp := if d.insE who off text = 0 then ((d.maker who).ins d.book off text).1.ops else []
def delE (d : LDoc) (who a b : Int) : Int := if whoE who ≠ 0 then 1 else ((d.maker who).del d.book a b).2
def delR (d : LDoc) (who a b : Int) : List LOp := if d.delE who a b = 0 then ((d.maker who).del d.book a b).1.ops else []
/-- The place of the letter at an offset. -/
def spot (d : LDoc) (off : Int) : ByteArray := (d.book.getD ((nthFrom 0 d.book off).toNat) default).place
def splE (d : LDoc) (who off : Int) : Int := if whoE who ≠ 0 then 1 else atErr d.book off
def splR (d : LDoc) (who off : Int) : List LOp := if d.splE who off = 0 then ((d.maker who).add ⟨⟨0, 0⟩, 3, d.spot off, 0, []⟩).ops else []
def fusE (d : LDoc) (who off : Int) : Int := if whoE who ≠ 0 then 1 else if atErr d.book off ≠ 0 then atErr d.book off else if seenAt d.marks (d.spot off) = [] then 5 else 0
def fusR (d : LDoc) (who off : Int) : List LOp := if d.fusE who off = 0 then ((d.maker who).add ⟨⟨0, 0⟩, 4, d.spot off, 0, seenAt d.marks (d.spot off)⟩).ops else []
/-- Ops one behind the other, till one is refused. -/
def doE (d : LDoc) : List LOp → Int
  | [] => 0
  | o :: t => if d.applyE o ≠ 0 then d.applyE o else (d.apply o).doE t
def doR (d : LDoc) : List LOp → LDoc
  | [] => d
  | o :: t => if d.applyE o ≠ 0 then d else (d.apply o).doR t
theorem doR_ok : ∀ (l : List LOp) {d : LDoc}, d.Ok → (d.doR l).Ok
  | [], _, h => h
  | o :: t, d, h => by
    unfold doR
    split
    · exact h
    · exact doR_ok t (apply_ok h o)
end LDoc
end Go.Proofs.YthfbjfocmnikaaaGreatDoor
/- The o-th leaf that is seen: plain. Conditions: none. -/
namespace Go.Proofs.YthfbjfocmnikaaaGreatDoor
set_option linter.unusedVariables false
theorem textL_cons (x : LLeaf) (l : List LLeaf) : textL (x :: l) = (if seenB x = true then [u8 x.letter] else []) ++ textL l := by
  unfold textL
  rw [List.filter_cons]
  split <;> simp
theorem nth_seen : ∀ (l : List LLeaf) (k o : Nat), o < (textL l).length → ∃ n, ∃ hn : n < l.length, nthFrom k l (o : Int) = ((k + n : Nat) : Int) ∧ seenB l[n] = true ∧ (textL (l.take n)).length = o := by
  intro l
  induction l with
  | nil => intro k o h; simp [textL] at h
  | cons x l ih =>
    intro k o h
    rw [textL_cons] at h
    unfold nthFrom
    by_cases hs : seenB x = true
    · rw [if_pos hs] at h ⊢
      rcases Nat.eq_zero_or_pos o with h0 | h0
      · subst h0
        exact ⟨0, by simp, by simp, hs, by simp [textL]⟩
      · obtain ⟨o', rfl⟩ : ∃ o', o = o' + 1 := ⟨o - 1, by omega⟩
        simp only [List.length_append, List.length_cons, List.length_nil] at h
        obtain ⟨n, hn, h1, h2, h3⟩ := ih (k + 1) o' (by omega)
        refine ⟨n + 1, by simp; omega, ?_, by simpa using h2, ?_⟩
        · rw [if_neg (by omega), show ((o' + 1 : Nat) : Int) - 1 = (o' : Int) by omega, h1]; omega
        · rw [List.take_succ_cons, textL_cons, if_pos hs]; simp [h3]
    · rw [if_neg hs] at h ⊢
      obtain ⟨n, hn, h1, h2, h3⟩ := ih (k + 1) o (by simpa using h)
      refine ⟨n + 1, by simp; omega, by rw [h1]; omega, by simpa using h2, ?_⟩
      rw [List.take_succ_cons, textL_cons, if_neg hs]; simpa using h3
end Go.Proofs.YthfbjfocmnikaaaGreatDoor

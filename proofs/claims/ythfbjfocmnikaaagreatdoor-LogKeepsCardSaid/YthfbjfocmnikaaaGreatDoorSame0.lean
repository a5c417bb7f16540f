/- 7 texts in one: each says ahead of itself what is proved, and its conditions. -/
import Derived.Test.YthfbjfocmnikaaaGreatDoorBookAt
import Derived.Test.YthfbjfocmnikaaaGreatDoorDocGo
import Derived.Test.YthfbjfocmnikaaaGreatDoorMarkSeen
import Derived.Test.YthfbjfocmnikaaaGreatDoorMem
import Derived.Test.YthfbjfocmnikaaaGreatDoorPlaceCheck
/- Package place, walked: numbers and letters. Conditions: stated with each. -/
namespace Go.Proofs.YthfbjfocmnikaaaGreatDoor
open Go.RowKit
set_option linter.unusedVariables false


end Go.Proofs.YthfbjfocmnikaaaGreatDoor
/- place.ready, walked. Conditions: stated with each. -/
namespace Go.Proofs.YthfbjfocmnikaaaGreatDoor
open Go.RowKit
set_option linter.unusedVariables false


end Go.Proofs.YthfbjfocmnikaaaGreatDoor
/- Package place, walked: the first quarter, between, room. Conditions: stated with each. -/
namespace Go.Proofs.YthfbjfocmnikaaaGreatDoor
open Go.RowKit
set_option linter.unusedVariables false

theorem high_le {a b : ByteArray} (lb : Letters b) (n : Nat) (hn : n ≤ 11) : high b n ≤ 3670344486987775 ∧ -1 ≤ high b n := by
  have h2 := pow26_le hn
  have h3 := numb_lt lb n
  unfold high
  split <;> omega
end Go.Proofs.YthfbjfocmnikaaaGreatDoor
/- Package place, walked: between. Conditions: texts no longer than an int may count. -/
namespace Go.Proofs.YthfbjfocmnikaaaGreatDoor
open Go.RowKit
set_option linter.unusedVariables false

def roomErr (a b : ByteArray) : Int := if readyErr a b ≠ 0 then readyErr a b else if quarter a b = [] then 8 else 0
def betweenErr (a b : ByteArray) (who : Int) : Int := if who < 1 ∨ 8 < who then 1 else roomErr a b
def betweenRes (a b : ByteArray) (who : Int) : List UInt8 := if betweenErr a b who = 0 then quarter a b ++ [UInt8.ofNat (97 + who.toNat)] else []

theorem quarter_len {a b : ByteArray} : ∀ (f n : Nat), n + f ≤ 12 → (quarterFrom a b n f).length ≤ 11 := by
  intro f
  induction f with
  | zero => intro n _; simp [quarterFrom]
  | succ f ih =>
    intro n hn
    rw [quarterFrom]
    split
    · exact ih (n + 1) (by omega)
    · rw [lets_len]; omega
theorem quarter_le (a b : ByteArray) : (quarter a b).length ≤ 11 := quarter_len 11 1 (by omega)

end Go.Proofs.YthfbjfocmnikaaaGreatDoor
/- Edits of a document: which ops they are, and ops done one behind the other. Plain. Conditions: none. -/
namespace Go.Proofs.YthfbjfocmnikaaaGreatDoor
open Go.RowKit
set_option linter.unusedVariables false
/-- A maker of an author's next ops. -/
structure LMk where
  who : Int
  n : Int
  ops : List LOp
namespace LMk
def put (m : LMk) (o : LOp) : LOp := ⟨⟨m.who, m.n + 1⟩, o.what, o.place, o.letter, o.seen⟩
def add (m : LMk) (o : LOp) : LMk := ⟨m.who, m.n + 1, m.ops ++ [m.put o]⟩
def wr (m : LMk) (p : ByteArray) (c : Int) : LMk := m.add ⟨⟨0, 0⟩, 1, p, c, []⟩
def st (m : LMk) (p : ByteArray) : LMk := m.add ⟨⟨0, 0⟩, 2, p, 0, []⟩
def next (m : LMk) (left right : ByteArray) : ByteArray := strOf (betweenRes left right m.who)
/-- Letters one behind the other: the maker then, and what is wrong. -/
def typed (right : ByteArray) : List UInt8 → ByteArray → LMk → LMk × Int
  | [], _, m => (m, 0)
  | c :: t, left, m => if betweenErr left right m.who ≠ 0 then (m, betweenErr left right m.who) else typed right t (m.next left right) (m.wr (m.next left right) c.toNat)
end LMk
def idxOf (l : List LLeaf) (off : Int) : Nat := if 0 < off then (nthFrom 0 l (off - 1)).toNat + 1 else 0
def leftOf (l : List LLeaf) (off : Int) : ByteArray := if 0 < off then (l.getD ((nthFrom 0 l (off - 1)).toNat) default).place else ⟨#[]⟩
def rightOf (l : List LLeaf) (i : Nat) : ByteArray := if i < l.length then (l.getD i default).place else ⟨#[]⟩
def badC (c : UInt8) : Bool := !letterB (c.toNat : Int)
def insErr (l : List LLeaf) (off : Int) (text : ByteArray) : Int := if 200 < text.size then 4 else if text.toList.any badC = true then 1 else if off < 0 ∨ ((textOf l).size : Int) < off then 1 else 0
namespace LMk
def ins (m : LMk) (l : List LLeaf) (off : Int) (text : ByteArray) : LMk × Int := if insErr l off text ≠ 0 then (m, insErr l off text) else typed (rightOf l (idxOf l off)) text.toList (leftOf l off) m
end LMk
namespace LDoc
def maker (d : LDoc) (who : Int) : LMk := ⟨who, nOf d.known ⟨who, 0⟩, []⟩
/-- Ops one behind the other, till one is refused. -/
def doE (d : LDoc) : List LOp → Int
  | [] => 0
  | o :: t => if d.applyE o ≠ 0 then d.applyE o else (d.apply o).doE t
def doR (d : LDoc) : List LOp → LDoc
  | [] => d
  | o :: t => if d.applyE o ≠ 0 then d else (d.apply o).doR t
end LDoc
end Go.Proofs.YthfbjfocmnikaaaGreatDoor
/- Rows of texts. Plain lemmas. Conditions: none. -/
namespace Go.Proofs.YthfbjfocmnikaaaGreatDoor
open Go.RowKit
set_option linter.unusedVariables false
def strs (l : List ByteArray) : List Value := l.map Value.string
theorem strs_get {l : List ByteArray} {i : Nat} (h : i < l.length) : (strs l)[i]? = some (.string l[i]) := by simp [strs, h]
end Go.Proofs.YthfbjfocmnikaaaGreatDoor
/- Texts that are the same. Plain lemmas. Conditions: none. -/
namespace Go.Proofs.YthfbjfocmnikaaaGreatDoor
open Go.RowKit
set_option linter.unusedVariables false
def SamePost (w : World) (b : Bool) (e : Ending) (w' : World) : Prop := e = .returned (.bool b) ∧ Below w.heap.size w w'
theorem Reads.text {w : World} {B : Nat} {A : Option Addr} {l : List ByteArray} (h : Reads w B 1 A l.length (strs l)) {k : Nat} (hk : k < l.length) : ∃ ad, A = some ad ∧ ad.block < B ∧ w.cell? (ad.add k) = some (.string l[k]) := by
  obtain ⟨ad, u, e, hb, hu, hc⟩ := h.at_ hk
  rw [strs_get hk] at hu
  injection hu with hu
  subst hu
  exact ⟨ad, e, hb, hc⟩
theorem same_toList {a b : ByteArray} : (a.toList = b.toList) ↔ a = b := by
  constructor
  · intro h
    rw [ByteArray.toList_eq, ByteArray.toList_eq] at h
    exact ByteArray.ext (Array.ext' h)
  · rintro rfl; rfl
end Go.Proofs.YthfbjfocmnikaaaGreatDoor

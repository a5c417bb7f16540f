/- 3 texts in one: each says ahead of itself what is proved, and its conditions. -/
import Derived.Test.YtkaccnegdmpofaaGreatDoorBookLaw
import Derived.Test.YtkaccnegdmpofaaGreatDoorDocKnown
import Derived.Test.YtkaccnegdmpofaaGreatDoorEditInsert
import Derived.Test.YtkaccnegdmpofaaGreatDoorEditLaw
import Derived.Test.YtkaccnegdmpofaaGreatDoorNthSeen
/- cursor.Anchor, Resolve, Range, walked. Conditions: places that an int may count. -/
namespace Go.Proofs.YtkaccnegdmpofaaGreatDoor
open Go.RowKit
set_option linter.unusedVariables false

section
variable (w : World) (A : Option Addr) (c : Nat) (l : List LLeaf) (h : Reads w w.heap.size 3 A l.length (lcells l)) (hs : Sized l) (hn : l.length ≤ c) (hc : c ≤ 9223372036854775807)
include h hs hn hc
end
end Go.Proofs.YtkaccnegdmpofaaGreatDoor
/- Cursors stay by their letters when letters are typed: plain. Conditions: none. -/
namespace Go.Proofs.YtkaccnegdmpofaaGreatDoor
open Go.RowKit
set_option linter.unusedVariables false
theorem insR_small {d : LDoc} {who off : Int} {text : ByteArray} : ∀ o ∈ d.insR who off text, o.place.size ≤ 12 := by
  by_cases h : d.insE who off text = 0
  · obtain ⟨h1, h2, h3, h4⟩ := LDoc.ins_ok h
    rw [h3]
    generalize rightOf d.book (idxOf d.book off) = right at *
    generalize leftOf d.book off = left at *
    generalize nOf d.known ⟨who, 0⟩ = n at *
    generalize text.toList = t at *
    clear h h1 h2 h3
    induction t generalizing left n with
    | nil => intro o ho; simp [typedOps] at ho
    | cons c t ih =>
      intro o ho
      rw [typedOps] at ho
      rcases List.mem_cons.1 ho with rfl | ho
      · exact (okPlace (good_of h4.1).check).1
      · exact ih _ _ h4.2 o ho
  · intro o ho
    unfold LDoc.insR at ho
    rw [if_neg h] at ho
    cases ho
theorem insR_len {d : LDoc} {who off : Int} {text : ByteArray} : (d.insR who off text).length ≤ 200 := by
  by_cases h : d.insE who off text = 0
  · obtain ⟨h1, h2, h3, h4⟩ := LDoc.ins_ok h
    rw [h3, typedOps_len, toList_len]
    exact (insErr_zero h2).1
  · unfold LDoc.insR
    rw [if_neg h]; simp
end Go.Proofs.YtkaccnegdmpofaaGreatDoor
/- A closed fact that many laws begin with: what is typed into a new document; and ops that a call has laid lie apart from a document. Conditions: none. -/
namespace Go.Proofs.YtkaccnegdmpofaaGreatDoor
open Go.RowKit
set_option linter.unusedVariables false
theorem sized_ok {l : List LLeaf} (h : BookOk l) : Sized l := fun x hx => by have := place_small (h.leafs x hx).place; omega
end Go.Proofs.YtkaccnegdmpofaaGreatDoor

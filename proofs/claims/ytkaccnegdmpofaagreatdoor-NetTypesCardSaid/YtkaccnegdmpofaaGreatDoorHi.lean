/- A closed fact that many laws begin with: what is typed into a new document; and ops that a call has laid lie apart from a document. Conditions: none. -/
import Derived.Test.YtkaccnegdmpofaaGreatDoorCursorLaw
import Derived.Test.YtkaccnegdmpofaaGreatDoorDocKnown
import Derived.Test.YtkaccnegdmpofaaGreatDoorEditInsert
namespace Go.Proofs.YtkaccnegdmpofaaGreatDoor
open Go.RowKit
set_option linter.unusedVariables false
theorem sized_ok {l : List LLeaf} (h : BookOk l) : Sized l := fun x hx => by have := place_small (h.leafs x hx).place; omega
theorem ops_apart {w1 w2 : World} {B N b : Nat} {S : List Nat} {st : LDoc} {D : DLay} (h : DocIs w1 B S b st D) (hN : w1.heap.size ≤ N) {V : Option Addr} {c : Nat} {ys : List OpAt} (ho : OwnOps w2 N V c ys) (hp : ∀ o ∈ ys.map OpAt.op, o.place.size ≤ 12) :
    (0 < ys.length → ∀ g ∈ ob V, g ∉ S) ∧ ∀ y ∈ ys, OpFar w2 S y := by
  refine ⟨fun _ g hg hm => ?_, fun y hy => ⟨(ho.seen y hy).reads, ?_, fun _ g hg hm => ?_⟩⟩
  · have := (ho.row.lt g hg).1; have := (h.own g hm).2; omega
  · have := hp y.op (List.mem_map.2 ⟨y, hy, rfl⟩); omega
  · have := ((ho.seen y hy).lt g hg).1; have := (h.own g hm).2; omega
/-- edit.Do of ops that edit.Insert has made, on the same document. -/
theorem do_ins {w7 w8 : World} {B b : Nat} {S : List Nat} {st : LDoc} {D : DLay} (h : DocIs w7 B S b st D) (ok : st.Ok) {who off : Int} {text : ByteArray} {V : Option Addr} {c : Nat} {zs : List OpAt} (hz : zs.map OpAt.op = st.insR who off text) (ho : OwnOps w8 w7.heap.size V c zs) (hb : Below w7.heap.size w7 w8) :
    Calls Tryz.prog 64 #[.pointer (some ⟨b, 0, none⟩), .slice V zs.length c] w8 (fun e w' => e = .returned (errV (st.doE (st.insR who off text))) ∧ DocTo w8 B S b (st.doR (st.insR who off text)) w') := by
  obtain ⟨a1, a2⟩ := ops_apart h (Nat.le_refl _) ho (by rw [hz]; exact insR_small)
  have hl : zs.length ≤ 200 := by have := insR_len (d := st) (who := who) (off := off) (text := text); rw [← hz, List.length_map] at this; exact this
  have := do_any w8 B S b st D (h.below hb) ok V c zs ho.row.reads a1 a2 (by omega)
  rw [hz] at this
  exact this
def hiT : ByteArray := ⟨#[104, 105]⟩
def hiDoc : LDoc := LDoc.new.doR (LDoc.new.insR 1 0 hiT)
theorem hi_ins : LDoc.new.insE 1 0 hiT = 0 := by decide +kernel
theorem hi_do : LDoc.new.doE (LDoc.new.insR 1 0 hiT) = 0 := by decide +kernel
theorem hi_text : textOf hiDoc.book = hiT := by decide +kernel
theorem hi_ok : hiDoc.Ok := LDoc.doR_ok _ LDoc.new_ok
end Go.Proofs.YtkaccnegdmpofaaGreatDoor

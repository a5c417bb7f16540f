/- Texts that are the same. Plain lemmas. Conditions: none. -/
import Derived.Test.YtngalkmmpjegkaaPlaceSpec
import Derived.Test.YtngalkmmpjegkaaStrs
namespace Go.Proofs.Ytngalkmmpjegkaa
open Go.RowKit
set_option linter.unusedVariables false
def SamePost (w : World) (b : Bool) (e : Ending) (w' : World) : Prop := e = .returned (.bool b) ∧ Below w.heap.size w w'
theorem Reads.text {w : World} {B : Nat} {A : Option Addr} {l : List ByteArray} (h : Reads w B 1 A l.length (strs l)) {k : Nat} (hk : k < l.length) : ∃ ad, A = some ad ∧ ad.block < B ∧ w.cell? (ad.add k) = some (.string l[k]) := by
  obtain ⟨ad, u, e, hb, hu, hc⟩ := h.at_ hk
  rw [strs_get hk] at hu
  injection hu with hu
  subst hu
  exact ⟨ad, e, hb, hc⟩
theorem same_toList {a b : ByteArray} : (a.toList = b.toList) ↔ a = b := by
  constructor
  · intro h
    rw [ByteArray.toList_eq, ByteArray.toList_eq] at h
    exact ByteArray.ext (Array.ext' h)
  · rintro rfl; rfl
end Go.Proofs.Ytngalkmmpjegkaa

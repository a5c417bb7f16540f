/- book.TextOf, Text, Nth, At, walked. Conditions: letters that a byte holds (of a book that is right they do). -/
import Derived.Test.YtlcjgldlblpboaaDoorBook
import Derived.Test.YtlcjgldlblpboaaDoorBytes
namespace Go.Proofs.YtlcjgldlblpboaaDoor
open Go.RowKit
set_option linter.unusedVariables false

/-- What is seen of leafs. -/
def textL (l : List LLeaf) : List UInt8 := (l.filter seenB).map fun x => u8 x.letter
def textOf (l : List LLeaf) : ByteArray := strOf (textL l)
def Fit (l : List LLeaf) : Prop := ∀ x ∈ l, seenB x = true → 0 ≤ x.letter ∧ x.letter ≤ 255
theorem textL_take {l : List LLeaf} {k : Nat} (h : k < l.length) : textL (l.take (k + 1)) = textL (l.take k) ++ (if seenB l[k] then [u8 l[k].letter] else []) := by
  unfold textL
  rw [List.take_succ_eq_append_getElem h, List.filter_append, List.map_append]
  congr 1
  cases hs : seenB l[k] <;> simp [hs]
theorem textL_le (l : List LLeaf) : (textL l).length ≤ l.length := by
  unfold textL
  rw [List.length_map]
  exact List.length_filter_le _ _
theorem conv_nil (w : World) : (convert 58 9 (.slice none 0 0)).run Tryd.prog w = .ok (.string ⟨#[]⟩) w := by kernel_rfl
set_option maxRecDepth 100000 in
/-- A row of bytes, turned into a string; an empty or nil one too. -/
theorem conv_own {w : World} {B : Nat} {V : Option Addr} {n c : Nat} {l : List UInt8} (h : Own w B 5 1 V n c (bs l)) :
    (convert 58 9 (.slice V n c)).run Tryd.prog w = .ok (.string (strOf l)) w := by
  have hl : n = l.length := by have := h.len; rw [bs_len] at this; omega
  subst hl
  rcases h.2 with ⟨he, h0⟩ | ⟨g, cap, cur, he, _⟩
  · injection he with h1 h2 h3
    subst h1 h3
    have : l = [] := List.eq_nil_of_length_eq_zero h0
    subst this
    exact conv_nil w
  · injection he with h1 h2 h3
    subst h1 h3
    refine run_convert_bytes_back (P := Tryd.prog) w 58 9 5 ⟨g, 0, none⟩ c l Tryd.underlying58 Tryd.underlying5 Tryd.underlying9 (fun j hj => ?_)
    have e : (⟨g, 0, none⟩ : Addr).add j = ⟨g, j, none⟩ := by unfold Addr.add; by_cases h : j = 0 <;> simp [h]
    rw [e, h.cellAt (by omega)]
    simp [bs, hj]
theorem reads_byte (W : World) (n : Int) (h0 : 0 ≤ n) (h1 : n ≤ 255) (v : Value) (hv : v = .int .u8 n) : Reads (W.alloc (.cells #[v] 5)) (W.alloc (.cells #[v] 5)).heap.size 1 (some ⟨W.heap.size, 0, none⟩) 1 (bs [u8 n]) := by
  subst hv
  have h := Reads.row W 5 #[.int .u8 n]
  have e : bs [u8 n] = (#[.int .u8 n] : Array Value).toList := by simp [bs, u8_val h0 h1]
  rw [e]
  simpa using h

def TextLoop (w : World) (l : List LLeaf) (v i : Value) (wr : World) : Prop :=
  ∃ (k cv : Nat) (V : Option Addr), k ≤ l.length ∧ i = .int .i64 k ∧ v = .slice V (textL (l.take k)).length cv ∧ Hid (Own wr w.heap.size 5 1 V (textL (l.take k)).length cv (bs (textL (l.take k)))) ∧ Hid (Below w.heap.size w wr)
end Go.Proofs.YtlcjgldlblpboaaDoor

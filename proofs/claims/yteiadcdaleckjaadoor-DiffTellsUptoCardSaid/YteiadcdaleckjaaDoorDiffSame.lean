/- WHAT BOTH HAVE IS KEPT: the law DiffSame answers true. Conditions: none. -/
import Derived.SizedLaws
import Derived.Test.YteiadcdaleckjaaDoorDiffWalk
import Derived.Test.YteiadcdaleckjaaDoorLift
namespace Go.Proofs.YteiadcdaleckjaaDoor
open Go.RowKit Go.WideShapes Go.ChangeShapes Go.ChangeAt
open Go.ChangeMaps (open_string)
set_option linter.unusedVariables false

theorem led_cost (e : Df.Ed) (h : e.strike ≤ 200) : e.L.cost = e.strike + e.write.length := by
  unfold LEd.cost
  have h1 : e.L.strike = (e.strike : Int) := rfl
  have h2 : e.L.write.size = e.write.length := strOf_size _
  rw [h1, h2]
  by_cases h5 : 0 < e.strike
  · rw [if_pos ⟨by omega, by omega⟩]; omega
  · rw [if_neg (by omega)]; omega
theorem costL_dif (a b : ByteArray) (ha : a.size ≤ 200) : costL ((difL a b).map Df.Ed.L) + 2 * Df.lcs a.data.toList b.data.toList = a.size + b.size := by
  have hal : a.data.toList.length = a.size := by rw [Array.length_toList]; rfl
  have hbl : b.data.toList.length = b.size := by rw [Array.length_toList]; rfl
  have h1 := Df.cost_dif ⟨0, 0, []⟩ a.data.toList b.data.toList
  have h2 := Df.strike_dif ⟨0, 0, []⟩ a.data.toList b.data.toList
  have h3 : costL ((difL a b).map Df.Ed.L) = Df.cost (difL a b) := by
    unfold costL Df.cost
    rw [List.map_map]
    congr 1
    apply List.map_congr_left
    intro e he
    have h4 := h2 e he
    rw [hal] at h4
    simp only at h4
    exact led_cost e (by omega)
  rw [h3]
  unfold difL
  simp only [List.length_nil] at h1
  omega
theorem many_difL (a b : ByteArray) (ha : a.size ≤ 200) (hb : b.size ≤ 200) : (difL a b).length ≤ 134 := by
  have hal : a.data.toList.length = a.size := by rw [Array.length_toList]; rfl
  have hbl : b.data.toList.length = b.size := by rw [Array.length_toList]; rfl
  have := Df.many_dif ⟨0, 0, []⟩ a.data.toList b.data.toList
  rw [show (Df.Ed.mk 0 0 []).dirty = false from rfl] at this
  unfold difL
  simp at this
  omega
namespace lawDiffSame

/-- The text with the other one put in. -/
def put (a b : ByteArray) (n : Nat) : ByteArray := a.extract 0 n ++ b ++ a.extract n a.size
theorem put_list {a b : ByteArray} {n : Nat} (h : n ≤ a.size) : (put a b n).data.toList = a.data.toList.take n ++ b.data.toList ++ a.data.toList.drop n := by
  have hal : a.data.toList.length = a.size := by rw [Array.length_toList]; rfl
  unfold put
  rw [ByteArray.data_append, ByteArray.data_append, Array.toList_append, Array.toList_append, extract_list, extract_list, List.drop_zero, ← hal, List.take_length]
theorem put_size {a b : ByteArray} {n : Nat} (h : n ≤ a.size) : (put a b n).size = a.size + b.size := by
  unfold put
  rw [ByteArray.size_append, ByteArray.size_append, ByteArray.size_extract, ByteArray.size_extract]
  omega
theorem put_sub {a b : ByteArray} {n : Nat} (h : n ≤ a.size) : a.data.toList.Sublist (put a b n).data.toList := by
  rw [put_list h]
  conv => lhs; rw [← List.take_append_drop n a.data.toList]
  exact List.Sublist.append (List.sublist_append_left _ _) (List.Sublist.refl _)
theorem put_cost {a b : ByteArray} {n : Nat} (h : n ≤ a.size) (hs : (put a b n).size ≤ 200) :
    costL ((difL a (put a b n)).map Df.Ed.L) = b.size ∧ costL ((difL (put a b n) a).map Df.Ed.L) = b.size := by
  have hsz := put_size (b := b) h
  have hal : a.data.toList.length = a.size := by rw [Array.length_toList]; rfl
  obtain ⟨h1, h2⟩ := Df.lcs_sub (put_sub (b := b) h)
  have h3 := costL_dif a (put a b n) (by omega)
  have h4 := costL_dif (put a b n) a hs
  omega

def fact : List LEd := [⟨1, 0, ⟨#[120]⟩⟩]
theorem fact_err : wkErr ⟨#[97, 98]⟩ fact = 0 := by decide +kernel
theorem fact_out : strOf (wkOut ⟨#[97, 98]⟩ fact) = ⟨#[97, 120, 98]⟩ := by decide +kernel

end lawDiffSame
end Go.Proofs.YteiadcdaleckjaaDoor

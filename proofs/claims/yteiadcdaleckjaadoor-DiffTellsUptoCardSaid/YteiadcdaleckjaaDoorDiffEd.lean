/- Edits in memory; diff.Cost, walked. Conditions: a cost that an int holds. -/
import Derived.Test.YteiadcdaleckjaaDoorDiffLaw
import Derived.Test.YteiadcdaleckjaaDoorOpen
namespace Go.Proofs.YteiadcdaleckjaaDoor
open Go.RowKit
set_option linter.unusedVariables false

instance : Inhabited LEd := ⟨⟨0, 0, ⟨#[]⟩⟩⟩
def LEd.cells (e : LEd) : List Value := [.int .i64 e.keep, .int .i64 e.strike, .string e.write]
theorem LEd.cells_len (e : LEd) : e.cells.length = 3 := rfl
def ecells (l : List LEd) : List Value := l.flatMap LEd.cells
theorem ecells_len (l : List LEd) : (ecells l).length = l.length * 3 := flat_len_of LEd.cells_len l
theorem ecells_at (l : List LEd) (k r : Nat) (hk : k < l.length) (hr : r < 3) : (ecells l)[k * 3 + r]? = l[k].cells[r]? := by
  unfold ecells
  rw [flat_at LEd.cells_len (by decide), show (k * 3 + r) / 3 = k by omega, show (k * 3 + r) % 3 = r by omega, List.getElem?_eq_getElem hk]
  rfl
theorem ecells_append (a b : List LEd) : ecells a ++ ecells b = ecells (a ++ b) := by simp [ecells]
theorem oneCells_e (l : List LEd) : OneCells (ecells l) := by
  intro u hu
  simp only [ecells, List.mem_flatMap] at hu
  obtain ⟨e, _, hu⟩ := hu
  simp only [LEd.cells, List.mem_cons, List.not_mem_nil, or_false] at hu
  rcases hu with rfl | rfl | rfl <;> rfl
/-- An edit of the row, read. -/
theorem Reads.ed {w : World} {B : Nat} {A : Option Addr} {l : List LEd} (h : Reads w B 3 A l.length (ecells l)) {k : Nat} (hk : k < l.length) :
    ∃ ad, A = some ad ∧ ad.block < B ∧ w.cell? (ad.add (k * 3)) = some (.int .i64 l[k].keep) ∧ w.cell? ⟨(ad.add (k * 3)).block, (ad.add (k * 3)).off + 1, none⟩ = some (.int .i64 l[k].strike) ∧
      w.cell? ⟨(ad.add (k * 3)).block, (ad.add (k * 3)).off + 2, none⟩ = some (.string l[k].write) := by
  obtain ⟨ad, e, hb, hc⟩ := h.2 (by omega)
  refine ⟨ad, e, hb, ?_, ?_, ?_⟩
  · exact hc _ _ (by rw [show k * 3 = k * 3 + 0 from rfl, ecells_at l k 0 hk (by omega)]; rfl)
  · rw [show (⟨(ad.add (k * 3)).block, (ad.add (k * 3)).off + 1, none⟩ : Addr) = (ad.add (k * 3)).add 1 from rfl, add_of_add]
    exact hc _ _ (by rw [ecells_at l k 1 hk (by omega)]; rfl)
  · rw [show (⟨(ad.add (k * 3)).block, (ad.add (k * 3)).off + 2, none⟩ : Addr) = (ad.add (k * 3)).add 2 from rfl, add_of_add]
    exact hc _ _ (by rw [ecells_at l k 2 hk (by omega)]; rfl)

def LEd.cost (e : LEd) : Nat := (if 0 < e.strike ∧ e.strike ≤ 200 then e.strike.toNat else 0) + e.write.size
def costL (l : List LEd) : Nat := (l.map LEd.cost).sum
theorem costL_take {l : List LEd} {k : Nat} (h : k < l.length) : costL (l.take (k + 1)) = costL (l.take k) + l[k].cost := by
  unfold costL
  rw [List.take_succ_eq_append_getElem h]
  simp only [List.map_append, List.map_cons, List.map_nil, List.sum_append, List.sum_cons, List.sum_nil, Nat.add_zero]
theorem costL_le {l : List LEd} (k : Nat) : costL (l.take k) ≤ costL l := by
  have : costL l = costL (l.take k) + costL (l.drop k) := by
    unfold costL
    rw [← List.sum_append, ← List.map_append, List.take_append_drop]
  omega

set_option maxRecDepth 100000 in
set_option maxHeartbeats 4000000 in
theorem cost_any (w : World) (A : Option Addr) (c : Nat) (l : List LEd) (h : Reads w w.heap.size 3 A l.length (ecells l)) (hn : l.length ≤ 1048576) (hcost : costL l ≤ 4000000000000000000) :
    Calls Tryd.prog 12 #[.slice A l.length c] w (CheckPost w (.int .i64 (costL l : Int))) := by
  have HR := Lib.hid h
  clear h
  go_enter Tryd.func12, Tryd.ntmps12
  go_wp2_with fail
  go_loopw [3, 8] (fun v i wr => ∃ k : Nat, k ≤ l.length ∧ i = .int .i64 k ∧ v = .int .i64 (costL (l.take k) : Int) ∧ Hid (Below w.heap.size w wr)) (fun _ i _ => l.length - (intOf i).toNat)
  case atStart => exact ⟨0, by omega, rfl, rfl, Below.refl _ _⟩
  case round =>
    obtain ⟨k, hk, rfl, rfl, HB⟩ := hrel
    by_cases hkn : k < l.length
    · obtain ⟨ad, rfl, hb, c0, c1, c2⟩ := (HR.out.below HB.out).ed hkn
      have hlt : (k : Int) < (l.length : Int) := by omega
      have h1 := costL_take hkn
      have h2 := costL_le (l := l) (k + 1)
      have HC := Lib.hid h1
      have b1 : costL (l.take k) ≤ 4000000000000000000 := by omega
      have b2 : costL (l.take k) + l[k].cost ≤ 4000000000000000000 := by omega
      have HBa := Lib.hid ((HB.out.alloc HB.out.size (.cells #[.int .i64 l[k].keep, .int .i64 l[k].strike, .string l[k].write] 59)))
      clear h1 h2
      generalize costL (l.take k) = S at *
      by_cases h3 : 0 < l[k].strike
      · by_cases h4 : l[k].strike ≤ 200
        · have hcs : l[k].cost = l[k].strike.toNat + l[k].write.size := by unfold LEd.cost; rw [if_pos ⟨h3, h4⟩]
          have b3 : l[k].write.size ≤ 4000000000000000000 := by omega
          have b4 : (S : Int) + l[k].strike + (l[k].write.size : Int) ≤ 4000000000000000000 := by omega
          have HCS := Lib.hid hcs
          clear hcs b2
          go_wp2_with fail
          go_roundw
          case rel => exact ⟨k + 1, by omega, by go_num, by rw [HC.out, HCS.out]; congr 1; omega, HBa.out⟩
          case measure => simp [intOf]; omega
        · have hcs : l[k].cost = l[k].write.size := by unfold LEd.cost; rw [if_neg (by omega)]; omega
          have b4 : (S : Int) + (l[k].write.size : Int) ≤ 4000000000000000000 := by omega
          have HCS := Lib.hid hcs
          clear hcs b2
          go_wp2_with fail
          go_roundw
          case rel => exact ⟨k + 1, by omega, by go_num, by rw [HC.out, HCS.out]; congr 1, HBa.out⟩
          case measure => simp [intOf]; omega
      · have hcs : l[k].cost = l[k].write.size := by unfold LEd.cost; rw [if_neg (by omega)]; omega
        have b4 : (S : Int) + (l[k].write.size : Int) ≤ 4000000000000000000 := by omega
        have HCS := Lib.hid hcs
        clear hcs b2
        go_wp2_with fail
        go_roundw
        case rel => exact ⟨k + 1, by omega, by go_num, by rw [HC.out, HCS.out]; congr 1, HBa.out⟩
        case measure => simp [intOf]; omega
    · have hk2 : k = l.length := by omega
      have HT : Hid (costL (l.take k) = costL l) := by rw [List.take_of_length_le (by omega)]; exact Lib.hid rfl
      have hd : decide ((k : Int) < (l.length : Int)) = false := by simp; omega
      clear hk2
      go_wp2_with fail
      go_ret
      exact ⟨by rw [HT.out]; rfl, HB.out⟩
end Go.Proofs.YteiadcdaleckjaaDoor

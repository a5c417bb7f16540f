/- The document's Text, Nth, Ahead, walked. Conditions: a book that is right, or letters that are bytes. -/
import Derived.Test.YtngalkmmpjegkaaGreatDoorBookFind
import Derived.Test.YtngalkmmpjegkaaGreatDoorRefPlace
namespace Go.Proofs.YtngalkmmpjegkaaGreatDoor
open Go.RowKit
set_option linter.unusedVariables false
/-- The place of the o-th leaf that is seen; -1: none. -/
def RNthLoop (w : World) (l : List LLeaf) (off : Int) (n i : Value) (wr : World) : Prop :=
  ∃ (k : Nat) (o : Int), k ≤ l.length ∧ i = .int .i64 k ∧ n = .int .i64 o ∧ 0 ≤ o ∧ o ≤ off ∧ o ≤ k ∧ Hid (Below w.heap.size w wr) ∧ Hid (nthFrom 0 l off = nthFrom k (l.drop k) (off - o))
/-- How many are ahead, by going along. -/
theorem ahead_step {l : List LLeaf} {p : ByteArray} (hr : Rising l) {k : Nat} (h1 : ∀ j (hj : j < l.length), j < k → Op.bytesLess l[j].place.toList p.toList = true) (hk : k ≤ l.length)
    (h2 : ∀ (hk : k < l.length), Op.bytesLess l[k].place.toList p.toList = false) : ahead l p = k := by
  refine ahead_of hk h1 (fun j hj hkj => ?_)
  have hkl : k < l.length := by omega
  rcases Nat.eq_or_lt_of_le hkj with h | h
  · subst h; exact h2 hkl
  · cases hh : Op.bytesLess l[j].place.toList p.toList
    · rfl
    · have := less_trans _ _ _ (rising_lt hr k j hkl hj h) hh
      rw [h2 hkl] at this; cases this
set_option maxRecDepth 100000 in
set_option maxHeartbeats 2000000 in
theorem rahead_any (w : World) (A : Option Addr) (c : Nat) (l : List LLeaf) (p : ByteArray) (h : Reads w w.heap.size 3 A l.length (lcells l)) (hn : l.length ≤ 1000000) (hr : Rising l) :
    Calls Tryz.prog 69 #[.slice A l.length c, .string p] w fun e w' => e = .returned (.int .i64 (ahead l p : Int)) ∧ w' = w := by
  have HR := Lib.hid h
  have HRi := Lib.hid hr
  clear h hr
  go_enter Tryz.func69, Tryz.ntmps69
  go_wp2_with fail
  go_loop [5] (fun i => ∃ k : Nat, k ≤ l.length ∧ i = .int .i64 k ∧ Hid (∀ j (hj : j < l.length), j < k → Op.bytesLess l[j].place.toList p.toList = true)) (fun i => l.length - (intOf i).toNat)
  case atStart => exact ⟨0, by omega, rfl, fun j hj h => by omega⟩
  case round =>
    obtain ⟨k, hk, rfl, H1⟩ := hrel
    by_cases hkn : k < l.length
    · obtain ⟨ad, rfl, hb, c0, c1, c2⟩ := HR.out.leaf hkn
      have hlt : (k : Int) < (l.length : Int) := by omega
      have hk0 : (0 : Int) ≤ (k : Int) := by omega
      cases hless : Op.bytesLess l[k].place.toList p.toList with
      | true =>
        have HS : Hid (∀ j (hj : j < l.length), j < k + 1 → Op.bytesLess l[j].place.toList p.toList = true) := fun j hj hlt => by
          rcases Nat.eq_or_lt_of_le (Nat.le_of_lt_succ hlt) with h | h
          · subst h; exact hless
          · exact H1.out j hj h
        generalize l[k] = x at *
        go_wp2_with fail
        go_round
        case rel => exact ⟨k + 1, by omega, by go_num, HS⟩
        case measure => simp [intOf]; omega
      | false =>
        have HA : Hid (ahead l p = k) := ahead_step HRi.out (fun j hj h => H1.out j hj h) hk (fun _ => hless)
        generalize l[k] = x at *
        go_wp2_with fail
        go_ret
        exact ⟨by rw [HA.out]; rfl, rfl⟩
    · have hd : decide ((k : Int) < (l.length : Int)) = false := by simp; omega
      have HA : Hid (ahead l p = k) := ahead_step HRi.out (fun j hj h => H1.out j hj h) hk (fun h => absurd h hkn)
      go_wp2_with fail
      go_ret
      exact ⟨by rw [HA.out]; rfl, rfl⟩
end Go.Proofs.YtngalkmmpjegkaaGreatDoor

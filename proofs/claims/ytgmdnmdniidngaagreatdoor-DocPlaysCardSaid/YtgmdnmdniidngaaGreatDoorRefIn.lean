/- The document's In, walked. Conditions: few dots. -/
import Derived.Test.YtgmdnmdniidngaaGreatDoorMarkJoin
namespace Go.Proofs.YtgmdnmdniidngaaGreatDoor
open Go.RowKit MarkJoin
set_option linter.unusedVariables false
def RInLoop (w : World) (l : List LDot) (d : LDot) (i : Value) (wr : World) : Prop :=
  ∃ k : Nat, k ≤ l.length ∧ i = .int .i64 k ∧ Hid (Below w.heap.size w wr) ∧ Hid (∀ j (hj : j < l.length), j < k → l[j] ≠ d)
set_option maxRecDepth 100000 in
set_option maxHeartbeats 2000000 in
theorem rin_any (w : World) (A : Option Addr) (c : Nat) (l : List LDot) (d : LDot) (h : Reads w w.heap.size 2 A l.length (dcells l)) (hn : l.length ≤ 1000) :
    Calls Tryz.prog 79 #[.slice A l.length c, .agg #[.int .i64 d.who, .int .i64 d.n]] w (CheckPost w (.bool (inD l d))) := by
  obtain ⟨W0, hW0⟩ : ∃ W0, W0 = w.alloc (.cells #[.int .i64 d.who, .int .i64 d.n] 30) := ⟨_, rfl⟩
  have HSZ : Hid (w.heap.size < W0.heap.size) := by show _ < _; rw [hW0]; simp
  have HBW : Hid (Below w.heap.size w W0) := by show Below _ _ _; rw [hW0]; exact (Below.refl _ _).alloc (Nat.le_refl _) _
  have HR : Hid (∀ W, Below W0.heap.size W0 W → Reads W W.heap.size 2 A l.length (dcells l)) := fun W hb => ((((h.below HBW.out).more HBW.out.size).below hb).more hb.size)
  have HBK : Hid (∀ W, Below W0.heap.size W0 W → W.cell? ⟨w.heap.size, 0, none⟩ = some (.int .i64 d.who) ∧ W.cell? ⟨w.heap.size, 1, none⟩ = some (.int .i64 d.n)) := fun W hb => by
    have h0 : Blk W0 w.heap.size 30 #[.int .i64 d.who, .int .i64 d.n] := by rw [hW0]; exact Blk.new w _ _
    have h1 := h0.below hb HSZ.out
    exact ⟨by rw [h1.cell]; rfl, by rw [h1.cell]; rfl⟩
  clear h
  obtain ⟨d0, d1⟩ := d
  simp only at hW0 HBK
  go_enter Tryz.func79, Tryz.ntmps79
  go_wp2_with fail
  rw [← hW0]
  clear hW0
  go_loopw [5] (fun i wr => RInLoop W0 l ⟨d0, d1⟩ i wr) (fun i _ => l.length - (intOf i).toNat)
  case atStart => exact ⟨0, by omega, rfl, Below.refl _ _, fun j hj h => by omega⟩
  case round =>
    obtain ⟨k, hk, rfl, HB, HN⟩ := hrel
    by_cases hkn : k < l.length
    · obtain ⟨ad, rfl, hb, c0, c1⟩ := (HR.out _ HB.out).dot hkn
      obtain ⟨b0, b1⟩ := HBK.out _ HB.out
      have hlt : (k : Int) < (l.length : Int) := by omega
      have hk0 : (0 : Int) ≤ (k : Int) := by omega
      have HX : Hid (∀ x, x = l[k] → ∀ j (hj : j < l.length), j < k + 1 → (x ≠ ⟨d0, d1⟩) → l[j] ≠ ⟨d0, d1⟩) := fun x hx j hj hjk hne => by
        rcases Nat.eq_or_lt_of_le (Nat.le_of_lt_succ hjk) with h | h
        · subst h; rw [← hx]; exact hne
        · exact HN.out j hj h
      have HM : Hid (∀ x, x = l[k] → x = ⟨d0, d1⟩ → inD l ⟨d0, d1⟩ = true) := fun x hx he => inD_iff.2 (by rw [← he, hx]; exact List.getElem_mem hkn)
      generalize hlk : l[k] = x at *
      have HX2 := Lib.hid (HX.out x rfl)
      have HM2 := Lib.hid (HM.out x rfl)
      clear HX HM hlk
      obtain ⟨x0, x1⟩ := x
      simp only at c0 c1
      have heq := fun W => eq_dot W x0 d0 x1 d1
      by_cases hx : (⟨x0, x1⟩ : LDot) = ⟨d0, d1⟩
      · have g1 : (x0 == d0 && (x1 == d1)) = true := by rw [dot_same]; exact decide_eq_true hx
        have HT := Lib.hid (HM2.out hx)
        clear hx
        go_wp2_with fail
        go_quiet (fail)
        go_wp2_with fail
        go_ret
        exact ⟨by rw [HT.out]; rfl, HBW.out.trans ((below_drewN HB.out _).mono HBW.out.size)⟩
      · have g1 : (x0 == d0 && (x1 == d1)) = false := by rw [dot_same]; exact decide_eq_false hx
        have HT : Hid (∀ j (hj : j < l.length), j < k + 1 → l[j] ≠ ⟨d0, d1⟩) := fun j hj hjk => HX2.out j hj hjk hx
        clear hx
        go_wp2_with fail
        go_quiet (fail)
        go_wp2_with fail
        go_roundw
        case rel => exact ⟨k + 1, by omega, by go_num, below_drewN HB.out _, HT⟩
        case measure => simp [intOf]; omega
    · have hd : decide ((k : Int) < (l.length : Int)) = false := by simp; omega
      have HT : Hid (inD l ⟨d0, d1⟩ = false) := by
        show _ = _
        cases h : inD l ⟨d0, d1⟩
        · rfl
        · obtain ⟨j, hj, e⟩ := List.getElem_of_mem (inD_iff.1 h)
          exact absurd e (HN.out j hj (by omega))
      go_wp2_with fail
      go_ret
      exact ⟨by rw [HT.out]; rfl, HBW.out.trans (HB.out.mono HBW.out.size)⟩
end Go.Proofs.YtgmdnmdniidngaaGreatDoor

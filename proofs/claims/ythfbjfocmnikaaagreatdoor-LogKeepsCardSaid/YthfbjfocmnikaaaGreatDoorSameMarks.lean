/- leafsame.Marks, walked. Conditions: few elements. -/
import Derived.Test.YthfbjfocmnikaaaGreatDoorMark
import Derived.Test.YthfbjfocmnikaaaGreatDoorSame0
namespace Go.Proofs.YthfbjfocmnikaaaGreatDoor
open Go.RowKit
set_option linter.unusedVariables false
namespace SameMarks
instance dec : DecidableEq LMark := fun a b => by
  obtain ⟨a0, a1, a2⟩ := a
  obtain ⟨b0, b1, b2⟩ := b
  simp only [LMark.mk.injEq, LDot.mk.injEq]
  exact inferInstance
set_option maxRecDepth 100000 in
theorem eq_one (W : World) (x0 y0 : ByteArray) (x1 y1 : Int) (x2 y2 : Int) : (Op.equalIn 10000 136 (.agg #[.string x0, .int .i64 x1, .int .i64 x2]) (.agg #[.string y0, .int .i64 y1, .int .i64 y2])).run Tryz.prog W = .ok (x0.toList == y0.toList && (x1 == y1 && (x2 == y2))) W := by
  have ui := Tryz.underlying3
  have us := Tryz.underlying9
  have hDD : ∀ (a b c d : Int) (W : World), (Op.equalIn 9999 27 (.agg #[.int .i64 a, .int .i64 b]) (.agg #[.int .i64 c, .int .i64 d])).run Tryz.prog W = .ok (a == c && b == d) W := fun a b c d W => by
    have hD : Tryz.prog.underlying 27 = some (.struct (Tryz.prog.fieldsOf 27)) := by kernel_rfl
    have hpD : Tryz.prog.stoodInHeld 27 = false := by kernel_rfl
    rw [show (9999 : Nat) = 9998 + 1 from rfl, run_equalIn_agg W 9998 27 _ _ hD hpD]
    simp only [Program.fieldsOf, Tryz.underlying27]
    clear hD hpD
    go_simp
    by_cases h1 : a = c <;> by_cases h2 : b = d <;> simp [h1, h2]
  have haD := Tryz.isAgg27
  have hS : Tryz.prog.underlying 136 = some (.struct (Tryz.prog.fieldsOf 136)) := by kernel_rfl
  have hp : Tryz.prog.stoodInHeld 136 = false := by kernel_rfl
  rw [show (10000 : Nat) = 9999 + 1 from rfl, run_equalIn_agg W 9999 136 _ _ hS hp]
  simp only [Program.fieldsOf, Tryz.underlying136]
  go_simp
  by_cases h0 : x0.toList = y0.toList <;> by_cases h1 : x1 = y1 <;> by_cases h2 : x2 = y2 <;> simp [h0, h1, h2]
theorem same_one {x0 y0 : ByteArray} {x1 y1 : Int} {x2 y2 : Int} : (x0.toList == y0.toList && (x1 == y1 && (x2 == y2))) = decide ((⟨x0, ⟨x1, x2⟩⟩ : LMark) = ⟨y0, ⟨y1, y2⟩⟩) := by
  rw [Bool.eq_iff_iff]
  simp only [Bool.and_eq_true, beq_iff_eq, decide_eq_true_eq, LMark.mk.injEq, LDot.mk.injEq, same_toList]
def Loop (w : World) (l m : List LMark) (i : Value) (wr : World) : Prop :=
  ∃ k : Nat, k ≤ l.length ∧ i = .int .i64 k ∧ Hid (Below w.heap.size w wr) ∧ Hid (decide (l = m) = decide (l.drop k = m.drop k))
set_option maxRecDepth 100000 in
set_option maxHeartbeats 1000000 in
theorem any (w : World) (A G : Option Addr) (ca cg : Nat) (l m : List LMark) (h1 : Reads w w.heap.size 3 A l.length (mcells l)) (h2 : Reads w w.heap.size 3 G m.length (mcells m)) (hl : l.length ≤ 1000000) (hm : m.length ≤ 1000000) :
    Calls Tryz.prog 24 #[.slice A l.length ca, .slice G m.length cg] w (SamePost w (decide (l = m))) := by
  have HR := Lib.hid h1
  have HS := Lib.hid h2
  clear h1 h2
  by_cases hlm : l.length = m.length
  · have HLM := Lib.hid hlm
    have e0 : ((l.length : Int) != (m.length : Int)) = false := by simp [hlm]
    have e1 : ((l.length : Int) == (m.length : Int)) = true := by simp [hlm]
    clear hlm
    go_enter Tryz.func24, Tryz.ntmps24
    go_wp2_with fail
    go_loopw [5] (fun i wr => Loop w l m i wr) (fun i _ => l.length - (intOf i).toNat)
    case atStart => exact ⟨0, by omega, rfl, Below.refl _ _, Lib.hid rfl⟩
    case round =>
      obtain ⟨k, hk, rfl, HB, HE⟩ := hrel
      by_cases hkn : k < l.length
      · have hkm : k < m.length := by have := HLM.out; omega
        obtain ⟨ad, hA, _, c0, c1, c2⟩ := (HR.out.below HB.out).mark hkn
        obtain ⟨ag, hG, _, g0, g1, g2⟩ := (HS.out.below HB.out).mark hkm
        have k1 : (k : Int) < (l.length : Int) := by omega
        have k2 : (k : Int) < (m.length : Int) := by omega
        have k0 : (0 : Int) ≤ (k : Int) := by omega
        subst hA hG
        have hdr : (l.drop k = m.drop k) = (l[k] = m[k] ∧ l.drop (k + 1) = m.drop (k + 1)) := by
          rw [List.drop_eq_getElem_cons hkn, List.drop_eq_getElem_cons hkm, List.cons.injEq]
        have HDR := Lib.hid hdr
        clear hdr
        generalize l[k] = x at *
        generalize m[k] = y at *
        obtain ⟨x0, ⟨x1, x2⟩⟩ := x
        obtain ⟨y0, ⟨y1, y2⟩⟩ := y
        simp only at c0 c1 c2 g0 g1 g2
        by_cases hxy : (⟨x0, ⟨x1, x2⟩⟩ : LMark) = ⟨y0, ⟨y1, y2⟩⟩
        · have HN : Hid (decide (l = m) = decide (l.drop (k + 1) = m.drop (k + 1))) := by
            show _ = _
            rw [HE.out]; congr 1; rw [HDR.out]; simp [hxy]
          have hq : ∀ W, (Op.equalIn 10000 136 (.agg #[.string x0, .int .i64 x1, .int .i64 x2]) (.agg #[.string y0, .int .i64 y1, .int .i64 y2])).run Tryz.prog W = .ok true W := fun W => by rw [eq_one, same_one, decide_eq_true hxy]
          clear HDR HE hxy
          go_wp2_with fail
          go_quiet (fail)
          go_wp2_with fail
          go_roundw
          case rel => exact ⟨k + 1, by omega, by go_num, below_drewN HB.out _, HN⟩
          case measure => simp [intOf]; omega
        · have HN : Hid (decide (l = m) = false) := by
            show _ = _
            rw [HE.out, decide_eq_false_iff_not, HDR.out]; exact fun h => hxy h.1
          have hq : ∀ W, (Op.equalIn 10000 136 (.agg #[.string x0, .int .i64 x1, .int .i64 x2]) (.agg #[.string y0, .int .i64 y1, .int .i64 y2])).run Tryz.prog W = .ok false W := fun W => by rw [eq_one, same_one, decide_eq_false hxy]
          clear HDR HE hxy
          go_wp2_with fail
          go_quiet (fail)
          go_wp2_with fail
          go_ret
          exact ⟨by rw [HN.out]; rfl, below_drewN HB.out _⟩
      · have HN : Hid (decide (l = m) = true) := by
          show _ = _
          rw [HE.out, List.drop_of_length_le (by omega), List.drop_of_length_le (by have := HLM.out; omega)]; rfl
        have hd : decide ((k : Int) < (l.length : Int)) = false := by simp; omega
        go_wp2_with fail
        go_ret
        exact ⟨by rw [HN.out]; rfl, HB.out⟩
  · have HF : Hid (decide (l = m) = false) := decide_eq_false (fun h => hlm (by rw [h]))
    have e0 : ((l.length : Int) != (m.length : Int)) = true := by simp; omega
    have e1 : ((l.length : Int) == (m.length : Int)) = false := by simp; omega
    clear hlm
    go_enter Tryz.func24, Tryz.ntmps24
    go_wp2_with fail
    go_ret
    exact ⟨by rw [HF.out]; rfl, Below.refl _ _⟩
end SameMarks
end Go.Proofs.YthfbjfocmnikaaaGreatDoor

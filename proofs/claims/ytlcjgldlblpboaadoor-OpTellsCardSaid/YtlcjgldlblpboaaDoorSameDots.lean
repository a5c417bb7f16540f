/- 3 texts in one: each says ahead of itself what is proved, and its conditions. -/
import Derived.Test.YtlcjgldlblpboaaDoorMem
import Derived.Test.YtlcjgldlblpboaaDoorPlaceSpec
import Derived.Test.YtlcjgldlblpboaaDoorRise
/- Rows of texts. Plain lemmas. Conditions: none. -/
namespace Go.Proofs.YtlcjgldlblpboaaDoor
open Go.RowKit
set_option linter.unusedVariables false
def strs (l : List ByteArray) : List Value := l.map Value.string
theorem oneCells_strs (l : List ByteArray) : OneCells (strs l) := by
  intro u hu
  obtain ⟨s, _, rfl⟩ := List.mem_map.1 hu
  rfl
theorem strs_len (l : List ByteArray) : (strs l).length = l.length := by simp [strs]
theorem strs_get {l : List ByteArray} {i : Nat} (h : i < l.length) : (strs l)[i]? = some (.string l[i]) := by simp [strs, h]
end Go.Proofs.YtlcjgldlblpboaaDoor
/- Texts that are the same. Plain lemmas. Conditions: none. -/
namespace Go.Proofs.YtlcjgldlblpboaaDoor
open Go.RowKit
set_option linter.unusedVariables false
def SamePost (w : World) (b : Bool) (e : Ending) (w' : World) : Prop := e = .returned (.bool b) ∧ Below w.heap.size w w'
theorem Reads.text {w : World} {B : Nat} {A : Option Addr} {l : List ByteArray} (h : Reads w B 1 A l.length (strs l)) {k : Nat} (hk : k < l.length) : ∃ ad, A = some ad ∧ ad.block < B ∧ w.cell? (ad.add k) = some (.string l[k]) := by
  obtain ⟨ad, u, e, hb, hu, hc⟩ := h.at_ hk
  rw [strs_get hk] at hu
  injection hu with hu
  subst hu
  exact ⟨ad, e, hb, hc⟩
theorem same_toList {a b : ByteArray} : (a.toList = b.toList) ↔ a = b := by
  constructor
  · intro h
    rw [ByteArray.toList_eq, ByteArray.toList_eq] at h
    exact ByteArray.ext (Array.ext' h)
  · rintro rfl; rfl
end Go.Proofs.YtlcjgldlblpboaaDoor
/- leafsame.Dots, walked. Conditions: few elements. -/
namespace Go.Proofs.YtlcjgldlblpboaaDoor
open Go.RowKit
set_option linter.unusedVariables false
namespace SameDots
instance dec : DecidableEq LDot := fun a b => by
  cases a; cases b
  simp only [LDot.mk.injEq]
  exact inferInstance
set_option maxRecDepth 100000 in
theorem eq_one (W : World) (x0 y0 : Int) (x1 y1 : Int) : (Op.equalIn 10000 23 (.agg #[.int .i64 x0, .int .i64 x1]) (.agg #[.int .i64 y0, .int .i64 y1])).run Tryd.prog W = .ok (x0 == y0 && (x1 == y1)) W := by
  have ui := Tryd.underlying3
  have hS : Tryd.prog.underlying 23 = some (.struct (Tryd.prog.fieldsOf 23)) := by kernel_rfl
  have hp : Tryd.prog.stoodInHeld 23 = false := by kernel_rfl
  rw [show (10000 : Nat) = 9999 + 1 from rfl, run_equalIn_agg W 9999 23 _ _ hS hp]
  simp only [Program.fieldsOf, Tryd.underlying23]
  go_simp
  by_cases h0 : x0 = y0 <;> by_cases h1 : x1 = y1 <;> simp [h0, h1]
theorem same_one {x0 y0 : Int} {x1 y1 : Int} : (x0 == y0 && (x1 == y1)) = decide ((⟨x0, x1⟩ : LDot) = ⟨y0, y1⟩) := by
  rw [Bool.eq_iff_iff]
  simp only [Bool.and_eq_true, beq_iff_eq, decide_eq_true_eq, LDot.mk.injEq]
def Loop (w : World) (l m : List LDot) (i : Value) (wr : World) : Prop :=
  ∃ k : Nat, k ≤ l.length ∧ i = .int .i64 k ∧ Hid (Below w.heap.size w wr) ∧ Hid (decide (l = m) = decide (l.drop k = m.drop k))
set_option maxRecDepth 100000 in
set_option maxHeartbeats 1000000 in
theorem any_big (w : World) (A G : Option Addr) (ca cg : Nat) (l m : List LDot) (h1 : Reads w w.heap.size 2 A l.length (dcells l)) (h2 : Reads w w.heap.size 2 G m.length (dcells m)) (hl : l.length ≤ 9223372036854775807) (hm : m.length ≤ 9223372036854775807) :
    Calls Tryd.prog 32 #[.slice A l.length ca, .slice G m.length cg] w (SamePost w (decide (l = m))) := by
  have HR := Lib.hid h1
  have HS := Lib.hid h2
  clear h1 h2
  by_cases hlm : l.length = m.length
  · have HLM := Lib.hid hlm
    have e0 : ((l.length : Int) != (m.length : Int)) = false := by simp [hlm]
    have e1 : ((l.length : Int) == (m.length : Int)) = true := by simp [hlm]
    clear hlm
    go_enter Tryd.func32, Tryd.ntmps32
    go_wp2_with fail
    go_loopw [5] (fun i wr => Loop w l m i wr) (fun i _ => l.length - (intOf i).toNat)
    case atStart => exact ⟨0, by omega, rfl, Below.refl _ _, Lib.hid rfl⟩
    case round =>
      obtain ⟨k, hk, rfl, HB, HE⟩ := hrel
      by_cases hkn : k < l.length
      · have hkm : k < m.length := by have := HLM.out; omega
        obtain ⟨ad, hA, _, c0, c1⟩ := (HR.out.below HB.out).dot hkn
        obtain ⟨ag, hG, _, g0, g1⟩ := (HS.out.below HB.out).dot hkm
        have k1 : (k : Int) < (l.length : Int) := by omega
        have k2 : (k : Int) < (m.length : Int) := by omega
        have k0 : (0 : Int) ≤ (k : Int) := by omega
        subst hA hG
        have hdr : (l.drop k = m.drop k) = (l[k] = m[k] ∧ l.drop (k + 1) = m.drop (k + 1)) := by
          rw [List.drop_eq_getElem_cons hkn, List.drop_eq_getElem_cons hkm, List.cons.injEq]
        have HDR := Lib.hid hdr
        clear hdr
        generalize l[k] = x at *
        generalize m[k] = y at *
        obtain ⟨x0, x1⟩ := x
        obtain ⟨y0, y1⟩ := y
        simp only at c0 c1 g0 g1
        by_cases hxy : (⟨x0, x1⟩ : LDot) = ⟨y0, y1⟩
        · have HN : Hid (decide (l = m) = decide (l.drop (k + 1) = m.drop (k + 1))) := by
            show _ = _
            rw [HE.out]; congr 1; rw [HDR.out]; simp [hxy]
          have hq : ∀ W, (Op.equalIn 10000 23 (.agg #[.int .i64 x0, .int .i64 x1]) (.agg #[.int .i64 y0, .int .i64 y1])).run Tryd.prog W = .ok true W := fun W => by rw [eq_one, same_one, decide_eq_true hxy]
          clear HDR HE hxy
          go_wp2_with fail
          go_quiet (fail)
          go_wp2_with fail
          go_roundw
          case rel => exact ⟨k + 1, by omega, by go_num, below_drewN HB.out _, HN⟩
          case measure => simp [intOf]; omega
        · have HN : Hid (decide (l = m) = false) := by
            show _ = _
            rw [HE.out, decide_eq_false_iff_not, HDR.out]; exact fun h => hxy h.1
          have hq : ∀ W, (Op.equalIn 10000 23 (.agg #[.int .i64 x0, .int .i64 x1]) (.agg #[.int .i64 y0, .int .i64 y1])).run Tryd.prog W = .ok false W := fun W => by rw [eq_one, same_one, decide_eq_false hxy]
          clear HDR HE hxy
          go_wp2_with fail
          go_quiet (fail)
          go_wp2_with fail
          go_ret
          exact ⟨by rw [HN.out]; rfl, below_drewN HB.out _⟩
      · have HN : Hid (decide (l = m) = true) := by
          show _ = _
          rw [HE.out, List.drop_of_length_le (by omega), List.drop_of_length_le (by have := HLM.out; omega)]; rfl
        have hd : decide ((k : Int) < (l.length : Int)) = false := by simp; omega
        go_wp2_with fail
        go_ret
        exact ⟨by rw [HN.out]; rfl, HB.out⟩
  · have HF : Hid (decide (l = m) = false) := decide_eq_false (fun h => hlm (by rw [h]))
    have e0 : ((l.length : Int) != (m.length : Int)) = true := by simp; omega
    have e1 : ((l.length : Int) == (m.length : Int)) = false := by simp; omega
    clear hlm
    go_enter Tryd.func32, Tryd.ntmps32
    go_wp2_with fail
    go_ret
    exact ⟨by rw [HF.out]; rfl, Below.refl _ _⟩
theorem any (w : World) (A G : Option Addr) (ca cg : Nat) (l m : List LDot) (h1 : Reads w w.heap.size 2 A l.length (dcells l)) (h2 : Reads w w.heap.size 2 G m.length (dcells m)) (hl : l.length ≤ 1000000) (hm : m.length ≤ 1000000) :
    Calls Tryd.prog 32 #[.slice A l.length ca, .slice G m.length cg] w (SamePost w (decide (l = m))) := any_big w A G ca cg l m h1 h2 (by omega) (by omega)
end SameDots
end Go.Proofs.YtlcjgldlblpboaaDoor

/- 3 texts in one: each says ahead of itself what is proved, and its conditions. -/
import Derived.Test.YtgmdnmdniidngaaDoorMem
import Derived.Test.YtgmdnmdniidngaaDoorPlaceSpec
import Derived.Test.YtgmdnmdniidngaaDoorVec
/- Rows of texts. Plain lemmas. Conditions: none. -/
namespace Go.Proofs.YtgmdnmdniidngaaDoor
open Go.RowKit
set_option linter.unusedVariables false
def strs (l : List ByteArray) : List Value := l.map Value.string
theorem oneCells_strs (l : List ByteArray) : OneCells (strs l) := by
  intro u hu
  obtain ⟨s, _, rfl⟩ := List.mem_map.1 hu
  rfl
theorem strs_len (l : List ByteArray) : (strs l).length = l.length := by simp [strs]
theorem strs_get {l : List ByteArray} {i : Nat} (h : i < l.length) : (strs l)[i]? = some (.string l[i]) := by simp [strs, h]
end Go.Proofs.YtgmdnmdniidngaaDoor
/- Texts that are the same. Plain lemmas. Conditions: none. -/
namespace Go.Proofs.YtgmdnmdniidngaaDoor
open Go.RowKit
set_option linter.unusedVariables false
def SamePost (w : World) (b : Bool) (e : Ending) (w' : World) : Prop := e = .returned (.bool b) ∧ Below w.heap.size w w'
theorem Reads.text {w : World} {B : Nat} {A : Option Addr} {l : List ByteArray} (h : Reads w B 1 A l.length (strs l)) {k : Nat} (hk : k < l.length) : ∃ ad, A = some ad ∧ ad.block < B ∧ w.cell? (ad.add k) = some (.string l[k]) := by
  obtain ⟨ad, u, e, hb, hu, hc⟩ := h.at_ hk
  rw [strs_get hk] at hu
  injection hu with hu
  subst hu
  exact ⟨ad, e, hb, hc⟩
theorem same_toList {a b : ByteArray} : (a.toList = b.toList) ↔ a = b := by
  constructor
  · intro h
    rw [ByteArray.toList_eq, ByteArray.toList_eq] at h
    exact ByteArray.ext (Array.ext' h)
  · rintro rfl; rfl
end Go.Proofs.YtgmdnmdniidngaaDoor
/- leafsame.Ints, walked. Conditions: few elements. -/
namespace Go.Proofs.YtgmdnmdniidngaaDoor
open Go.RowKit
set_option linter.unusedVariables false
namespace SameInts
theorem Reads.int {w : World} {B : Nat} {A : Option Addr} {l : List Int} (h : Reads w B 1 A l.length (ints l)) {k : Nat} (hk : k < l.length) : ∃ ad, A = some ad ∧ ad.block < B ∧ w.cell? (ad.add k) = some (.int .i64 l[k]) := by
  obtain ⟨ad, u, e, hb, hu, hc⟩ := h.at_ hk
  have hu' : u = .int .i64 l[k] := by simpa [ints, hk] using hu.symm
  exact ⟨ad, e, hb, by rw [hc, hu']⟩
def Loop (w : World) (l m : List Int) (i : Value) (wr : World) : Prop :=
  ∃ k : Nat, k ≤ l.length ∧ i = .int .i64 k ∧ Hid (Below w.heap.size w wr) ∧ Hid (decide (l = m) = decide (l.drop k = m.drop k))
set_option maxRecDepth 100000 in
set_option maxHeartbeats 1000000 in
theorem any (w : World) (A G : Option Addr) (ca cg : Nat) (l m : List Int) (h1 : Reads w w.heap.size 1 A l.length (ints l)) (h2 : Reads w w.heap.size 1 G m.length (ints m)) (hl : l.length ≤ 1000000) (hm : m.length ≤ 1000000) :
    Calls Tryd.prog 11 #[.slice A l.length ca, .slice G m.length cg] w (SamePost w (decide (l = m))) := by
  have HR := Lib.hid h1
  have HS := Lib.hid h2
  clear h1 h2
  by_cases hlm : l.length = m.length
  · have HLM := Lib.hid hlm
    have e0 : ((l.length : Int) != (m.length : Int)) = false := by simp [hlm]
    have e1 : ((l.length : Int) == (m.length : Int)) = true := by simp [hlm]
    clear hlm
    go_enter Tryd.func11, Tryd.ntmps11
    go_wp2_with fail
    go_loopw [5] (fun i wr => Loop w l m i wr) (fun i _ => l.length - (intOf i).toNat)
    case atStart => exact ⟨0, by omega, rfl, Below.refl _ _, Lib.hid rfl⟩
    case round =>
      obtain ⟨k, hk, rfl, HB, HE⟩ := hrel
      by_cases hkn : k < l.length
      · have hkm : k < m.length := by have := HLM.out; omega
        obtain ⟨ad, hA, _, c0⟩ := Reads.int (HR.out.below HB.out) hkn
        obtain ⟨ag, hG, _, g0⟩ := Reads.int (HS.out.below HB.out) hkm
        have k1 : (k : Int) < (l.length : Int) := by omega
        have k2 : (k : Int) < (m.length : Int) := by omega
        have k0 : (0 : Int) ≤ (k : Int) := by omega
        subst hA hG
        have hdr : (l.drop k = m.drop k) = (l[k] = m[k] ∧ l.drop (k + 1) = m.drop (k + 1)) := by
          rw [List.drop_eq_getElem_cons hkn, List.drop_eq_getElem_cons hkm, List.cons.injEq]
        have HDR := Lib.hid hdr
        clear hdr
        generalize l[k] = x at *
        generalize m[k] = y at *
        by_cases hxy : x = y
        · have HN : Hid (decide (l = m) = decide (l.drop (k + 1) = m.drop (k + 1))) := by
            show _ = _
            rw [HE.out]; congr 1; rw [HDR.out]; simp [hxy]
          have hq : (x != y) = false := by simp [hxy]
          have hq2 : (x == y) = true := by simp [hxy]
          clear HDR HE hxy
          go_wp2_with fail
          go_quiet (fail)
          go_wp2_with fail
          go_roundw
          case rel => exact ⟨k + 1, by omega, by go_num, below_drewN HB.out _, HN⟩
          case measure => simp [intOf]; omega
        · have HN : Hid (decide (l = m) = false) := by
            show _ = _
            rw [HE.out, decide_eq_false_iff_not, HDR.out]; exact fun h => hxy h.1
          have hq : (x != y) = true := by simp [hxy]
          have hq2 : (x == y) = false := by simp [hxy]
          clear HDR HE hxy
          go_wp2_with fail
          go_quiet (fail)
          go_wp2_with fail
          go_ret
          exact ⟨by rw [HN.out]; rfl, below_drewN HB.out _⟩
      · have HN : Hid (decide (l = m) = true) := by
          show _ = _
          rw [HE.out, List.drop_of_length_le (by omega), List.drop_of_length_le (by have := HLM.out; omega)]; rfl
        have hd : decide ((k : Int) < (l.length : Int)) = false := by simp; omega
        go_wp2_with fail
        go_ret
        exact ⟨by rw [HN.out]; rfl, HB.out⟩
  · have HF : Hid (decide (l = m) = false) := decide_eq_false (fun h => hlm (by rw [h]))
    have e0 : ((l.length : Int) != (m.length : Int)) = true := by simp; omega
    have e1 : ((l.length : Int) == (m.length : Int)) = false := by simp; omega
    clear hlm
    go_enter Tryd.func11, Tryd.ntmps11
    go_wp2_with fail
    go_ret
    exact ⟨by rw [HF.out]; rfl, Below.refl _ _⟩
end SameInts
end Go.Proofs.YtgmdnmdniidngaaDoor

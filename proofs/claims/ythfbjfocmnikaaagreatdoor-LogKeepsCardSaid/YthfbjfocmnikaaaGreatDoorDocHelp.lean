/- 3 texts in one: each says ahead of itself what is proved, and its conditions. -/
import Derived.Test.YthfbjfocmnikaaaGreatDoorBook
import Derived.Test.YthfbjfocmnikaaaGreatDoorDocOps
import Derived.Test.YthfbjfocmnikaaaGreatDoorSame0
import Derived.Test.YthfbjfocmnikaaaGreatDoorSameMarks
import Derived.Test.YthfbjfocmnikaaaGreatDoorVec
/- leafsame.Leafs, walked. Conditions: few elements. -/
namespace Go.Proofs.YthfbjfocmnikaaaGreatDoor
open Go.RowKit
set_option linter.unusedVariables false
namespace SameLeafs
instance dec : DecidableEq LLeaf := fun a b => by
  cases a; cases b
  simp only [LLeaf.mk.injEq]
  exact inferInstance
set_option maxRecDepth 100000 in
theorem eq_one (W : World) (x0 y0 : ByteArray) (x1 y1 : Int) (x2 y2 : Bool) : (Op.equalIn 10000 115 (.agg #[.string x0, .int .i64 x1, .bool x2]) (.agg #[.string y0, .int .i64 y1, .bool y2])).run Tryz.prog W = .ok (x0.toList == y0.toList && (x1 == y1 && (x2 == y2))) W := by
  have ub := Tryz.underlying4
  have ui := Tryz.underlying3
  have us := Tryz.underlying9
  have hS : Tryz.prog.underlying 115 = some (.struct (Tryz.prog.fieldsOf 115)) := by kernel_rfl
  have hp : Tryz.prog.stoodInHeld 115 = false := by kernel_rfl
  rw [show (10000 : Nat) = 9999 + 1 from rfl, run_equalIn_agg W 9999 115 _ _ hS hp]
  simp only [Program.fieldsOf, Tryz.underlying115]
  go_simp
  by_cases h0 : x0.toList = y0.toList <;> by_cases h1 : x1 = y1 <;> by_cases h2 : x2 = y2 <;> simp [h0, h1, h2]
theorem same_one {x0 y0 : ByteArray} {x1 y1 : Int} {x2 y2 : Bool} : (x0.toList == y0.toList && (x1 == y1 && (x2 == y2))) = decide ((⟨x0, x1, x2⟩ : LLeaf) = ⟨y0, y1, y2⟩) := by
  rw [Bool.eq_iff_iff]
  simp only [Bool.and_eq_true, beq_iff_eq, decide_eq_true_eq, LLeaf.mk.injEq, same_toList]
def Loop (w : World) (l m : List LLeaf) (i : Value) (wr : World) : Prop :=
  ∃ k : Nat, k ≤ l.length ∧ i = .int .i64 k ∧ Hid (Below w.heap.size w wr) ∧ Hid (decide (l = m) = decide (l.drop k = m.drop k))
set_option maxRecDepth 100000 in
set_option maxHeartbeats 1000000 in
theorem any (w : World) (A G : Option Addr) (ca cg : Nat) (l m : List LLeaf) (h1 : Reads w w.heap.size 3 A l.length (lcells l)) (h2 : Reads w w.heap.size 3 G m.length (lcells m)) (hl : l.length ≤ 1000000) (hm : m.length ≤ 1000000) :
    Calls Tryz.prog 22 #[.slice A l.length ca, .slice G m.length cg] w (SamePost w (decide (l = m))) := by
  have HR := Lib.hid h1
  have HS := Lib.hid h2
  clear h1 h2
  by_cases hlm : l.length = m.length
  · have HLM := Lib.hid hlm
    have e0 : ((l.length : Int) != (m.length : Int)) = false := by simp [hlm]
    have e1 : ((l.length : Int) == (m.length : Int)) = true := by simp [hlm]
    clear hlm
    go_enter Tryz.func22, Tryz.ntmps22
    go_wp2_with fail
    go_loopw [5] (fun i wr => Loop w l m i wr) (fun i _ => l.length - (intOf i).toNat)
    case atStart => exact ⟨0, by omega, rfl, Below.refl _ _, Lib.hid rfl⟩
    case round =>
      obtain ⟨k, hk, rfl, HB, HE⟩ := hrel
      by_cases hkn : k < l.length
      · have hkm : k < m.length := by have := HLM.out; omega
        obtain ⟨ad, hA, _, c0, c1, c2⟩ := (HR.out.below HB.out).leaf hkn
        obtain ⟨ag, hG, _, g0, g1, g2⟩ := (HS.out.below HB.out).leaf hkm
        have k1 : (k : Int) < (l.length : Int) := by omega
        have k2 : (k : Int) < (m.length : Int) := by omega
        have k0 : (0 : Int) ≤ (k : Int) := by omega
        subst hA hG
        have hdr : (l.drop k = m.drop k) = (l[k] = m[k] ∧ l.drop (k + 1) = m.drop (k + 1)) := by
          rw [List.drop_eq_getElem_cons hkn, List.drop_eq_getElem_cons hkm, List.cons.injEq]
        have HDR := Lib.hid hdr
        clear hdr
        generalize l[k] = x at *
        generalize m[k] = y at *
        obtain ⟨x0, x1, x2⟩ := x
        obtain ⟨y0, y1, y2⟩ := y
        simp only at c0 c1 c2 g0 g1 g2
        by_cases hxy : (⟨x0, x1, x2⟩ : LLeaf) = ⟨y0, y1, y2⟩
        · have HN : Hid (decide (l = m) = decide (l.drop (k + 1) = m.drop (k + 1))) := by
            show _ = _
            rw [HE.out]; congr 1; rw [HDR.out]; simp [hxy]
          have hq : ∀ W, (Op.equalIn 10000 115 (.agg #[.string x0, .int .i64 x1, .bool x2]) (.agg #[.string y0, .int .i64 y1, .bool y2])).run Tryz.prog W = .ok true W := fun W => by rw [eq_one, same_one, decide_eq_true hxy]
          clear HDR HE hxy
          go_wp2_with fail
          go_quiet (fail)
          go_wp2_with fail
          go_roundw
          case rel => exact ⟨k + 1, by omega, by go_num, below_drewN HB.out _, HN⟩
          case measure => simp [intOf]; omega
        · have HN : Hid (decide (l = m) = false) := by
            show _ = _
            rw [HE.out, decide_eq_false_iff_not, HDR.out]; exact fun h => hxy h.1
          have hq : ∀ W, (Op.equalIn 10000 115 (.agg #[.string x0, .int .i64 x1, .bool x2]) (.agg #[.string y0, .int .i64 y1, .bool y2])).run Tryz.prog W = .ok false W := fun W => by rw [eq_one, same_one, decide_eq_false hxy]
          clear HDR HE hxy
          go_wp2_with fail
          go_quiet (fail)
          go_wp2_with fail
          go_ret
          exact ⟨by rw [HN.out]; rfl, below_drewN HB.out _⟩
      · have HN : Hid (decide (l = m) = true) := by
          show _ = _
          rw [HE.out, List.drop_of_length_le (by omega), List.drop_of_length_le (by have := HLM.out; omega)]; rfl
        have hd : decide ((k : Int) < (l.length : Int)) = false := by simp; omega
        go_wp2_with fail
        go_ret
        exact ⟨by rw [HN.out]; rfl, HB.out⟩
  · have HF : Hid (decide (l = m) = false) := decide_eq_false (fun h => hlm (by rw [h]))
    have e0 : ((l.length : Int) != (m.length : Int)) = true := by simp; omega
    have e1 : ((l.length : Int) == (m.length : Int)) = false := by simp; omega
    clear hlm
    go_enter Tryz.func22, Tryz.ntmps22
    go_wp2_with fail
    go_ret
    exact ⟨by rw [HF.out]; rfl, Below.refl _ _⟩
end SameLeafs
end Go.Proofs.YthfbjfocmnikaaaGreatDoor
/- leafsame.Ints, walked. Conditions: few elements. -/
namespace Go.Proofs.YthfbjfocmnikaaaGreatDoor
open Go.RowKit
set_option linter.unusedVariables false
namespace SameInts
theorem Reads.int {w : World} {B : Nat} {A : Option Addr} {l : List Int} (h : Reads w B 1 A l.length (ints l)) {k : Nat} (hk : k < l.length) : ∃ ad, A = some ad ∧ ad.block < B ∧ w.cell? (ad.add k) = some (.int .i64 l[k]) := by
  obtain ⟨ad, u, e, hb, hu, hc⟩ := h.at_ hk
  have hu' : u = .int .i64 l[k] := by simpa [ints, hk] using hu.symm
  exact ⟨ad, e, hb, by rw [hc, hu']⟩
def Loop (w : World) (l m : List Int) (i : Value) (wr : World) : Prop :=
  ∃ k : Nat, k ≤ l.length ∧ i = .int .i64 k ∧ Hid (Below w.heap.size w wr) ∧ Hid (decide (l = m) = decide (l.drop k = m.drop k))
set_option maxRecDepth 100000 in
set_option maxHeartbeats 1000000 in
theorem any (w : World) (A G : Option Addr) (ca cg : Nat) (l m : List Int) (h1 : Reads w w.heap.size 1 A l.length (ints l)) (h2 : Reads w w.heap.size 1 G m.length (ints m)) (hl : l.length ≤ 1000000) (hm : m.length ≤ 1000000) :
    Calls Tryz.prog 26 #[.slice A l.length ca, .slice G m.length cg] w (SamePost w (decide (l = m))) := by
  have HR := Lib.hid h1
  have HS := Lib.hid h2
  clear h1 h2
  by_cases hlm : l.length = m.length
  · have HLM := Lib.hid hlm
    have e0 : ((l.length : Int) != (m.length : Int)) = false := by simp [hlm]
    have e1 : ((l.length : Int) == (m.length : Int)) = true := by simp [hlm]
    clear hlm
    go_enter Tryz.func26, Tryz.ntmps26
    go_wp2_with fail
    go_loopw [5] (fun i wr => Loop w l m i wr) (fun i _ => l.length - (intOf i).toNat)
    case atStart => exact ⟨0, by omega, rfl, Below.refl _ _, Lib.hid rfl⟩
    case round =>
      obtain ⟨k, hk, rfl, HB, HE⟩ := hrel
      by_cases hkn : k < l.length
      · have hkm : k < m.length := by have := HLM.out; omega
        obtain ⟨ad, hA, _, c0⟩ := Reads.int (HR.out.below HB.out) hkn
        obtain ⟨ag, hG, _, g0⟩ := Reads.int (HS.out.below HB.out) hkm
        have k1 : (k : Int) < (l.length : Int) := by omega
        have k2 : (k : Int) < (m.length : Int) := by omega
        have k0 : (0 : Int) ≤ (k : Int) := by omega
        subst hA hG
        have hdr : (l.drop k = m.drop k) = (l[k] = m[k] ∧ l.drop (k + 1) = m.drop (k + 1)) := by
          rw [List.drop_eq_getElem_cons hkn, List.drop_eq_getElem_cons hkm, List.cons.injEq]
        have HDR := Lib.hid hdr
        clear hdr
        generalize l[k] = x at *
        generalize m[k] = y at *
        by_cases hxy : x = y
        · have HN : Hid (decide (l = m) = decide (l.drop (k + 1) = m.drop (k + 1))) := by
            show _ = _
            rw [HE.out]; congr 1; rw [HDR.out]; simp [hxy]
          have hq : (x != y) = false := by simp [hxy]
          have hq2 : (x == y) = true := by simp [hxy]
          clear HDR HE hxy
          go_wp2_with fail
          go_quiet (fail)
          go_wp2_with fail
          go_roundw
          case rel => exact ⟨k + 1, by omega, by go_num, below_drewN HB.out _, HN⟩
          case measure => simp [intOf]; omega
        · have HN : Hid (decide (l = m) = false) := by
            show _ = _
            rw [HE.out, decide_eq_false_iff_not, HDR.out]; exact fun h => hxy h.1
          have hq : (x != y) = true := by simp [hxy]
          have hq2 : (x == y) = false := by simp [hxy]
          clear HDR HE hxy
          go_wp2_with fail
          go_quiet (fail)
          go_wp2_with fail
          go_ret
          exact ⟨by rw [HN.out]; rfl, below_drewN HB.out _⟩
      · have HN : Hid (decide (l = m) = true) := by
          show _ = _
          rw [HE.out, List.drop_of_length_le (by omega), List.drop_of_length_le (by have := HLM.out; omega)]; rfl
        have hd : decide ((k : Int) < (l.length : Int)) = false := by simp; omega
        go_wp2_with fail
        go_ret
        exact ⟨by rw [HN.out]; rfl, HB.out⟩
  · have HF : Hid (decide (l = m) = false) := decide_eq_false (fun h => hlm (by rw [h]))
    have e0 : ((l.length : Int) != (m.length : Int)) = true := by simp; omega
    have e1 : ((l.length : Int) == (m.length : Int)) = false := by simp; omega
    clear hlm
    go_enter Tryz.func26, Tryz.ntmps26
    go_wp2_with fail
    go_ret
    exact ⟨by rw [HF.out]; rfl, Below.refl _ _⟩
end SameInts
end Go.Proofs.YthfbjfocmnikaaaGreatDoor
/- Rows of ops: their parts; rows that a step leaves as they are. Plain lemmas. Conditions: none. -/
namespace Go.Proofs.YthfbjfocmnikaaaGreatDoor
open Go.RowKit
set_option linter.unusedVariables false
theorem leafs_same (w : World) (A G : Option Addr) (ca cg : Nat) (l : List LLeaf) (h1 : Reads w w.heap.size 3 A l.length (lcells l)) (h2 : Reads w w.heap.size 3 G l.length (lcells l)) (hl : l.length ≤ 1000000) :
    Calls Tryz.prog 22 #[.slice A l.length ca, .slice G l.length cg] w (CheckPost w (.bool true)) := (SameLeafs.any w A G ca cg l l h1 h2 hl hl).mono fun e w' h => ⟨by rw [h.1]; simp, h.2⟩
theorem marks_same (w : World) (A G : Option Addr) (ca cg : Nat) (l : List LMark) (h1 : Reads w w.heap.size 3 A l.length (mcells l)) (h2 : Reads w w.heap.size 3 G l.length (mcells l)) (hl : l.length ≤ 1000000) :
    Calls Tryz.prog 24 #[.slice A l.length ca, .slice G l.length cg] w (CheckPost w (.bool true)) := (SameMarks.any w A G ca cg l l h1 h2 hl hl).mono fun e w' h => ⟨by rw [h.1]; simp, h.2⟩
theorem ints_same (w : World) (A G : Option Addr) (ca cg : Nat) (l : List Int) (h1 : Reads w w.heap.size 1 A l.length (ints l)) (h2 : Reads w w.heap.size 1 G l.length (ints l)) (hl : l.length ≤ 1000000) :
    Calls Tryz.prog 26 #[.slice A l.length ca, .slice G l.length cg] w (CheckPost w (.bool true)) := (SameInts.any w A G ca cg l l h1 h2 hl hl).mono fun e w' h => ⟨by rw [h.1]; simp, h.2⟩
theorem ocells_app (a b : List OpAt) : ocells (a ++ b) = ocells a ++ ocells b := by simp [ocells]
theorem ocells_drop (l : List OpAt) (k : Nat) (hk : k ≤ l.length) : (ocells l).drop (k * 6) = ocells (l.drop k) := by
  have h := ocells_app (l.take k) (l.drop k)
  rw [List.take_append_drop] at h
  have e : (ocells (l.take k)).length = k * 6 := by rw [ocells_len, List.length_take]; omega
  rw [h, ← e, List.drop_left]
theorem Reads.back {w : World} {B : Nat} {A : Option Addr} {l : List OpAt} (h : Reads w B 6 A l.length (ocells l)) {k c : Nat} (hk : k ≤ l.length) (hc : l.length ≤ c) : Reads w B 6 (if c = k then A else A.map (·.add (k * 6))) (l.length - k) (ocells (l.drop k)) := by
  have := h.cut hk hc
  rw [ocells_drop l k hk] at this
  exact this
theorem own_far {w w' : World} {T : List Nat} {N0 : Nat} {e : TypeId} {size n c : Nat} {A : Option Addr} {xs : List Value} (h : Own w N0 e size A n c xs) (ho : Only T w w') (hT : ∀ g ∈ T, g < N0 ∨ w.heap.size ≤ g) : Own w' N0 e size A n c xs :=
  h.only ho (fun g hg hm => by have := h.lt g hg; have := hT g hm; omega)
theorem ops_far {w w' : World} {T : List Nat} {N0 : Nat} {V : Option Addr} {c : Nat} {zs : List OpAt} (h : OwnOps w N0 V c zs) (ho : Only T w w') (hT : ∀ g ∈ T, g < N0 ∨ w.heap.size ≤ g) : OwnOps w' N0 V c zs :=
  ⟨own_far h.row ho hT, fun z hz => own_far (h.seen z hz) ho hT⟩
namespace LDoc
theorem apply_three {d : LDoc} (o : LOp) : (d.applyB o = true ∧ d.applyE o = 0 ∧ (d.apply o).ops = d.ops ++ [o]) ∨ (d.applyB o = false ∧ d.applyE o = 0 ∧ d.apply o = d) ∨ (d.applyE o ≠ 0 ∧ d.applyB o = false ∧ d.apply o = d) := by
  by_cases h : d.applyB o = true
  · have he : d.applyE o = 0 := by
      unfold applyB at h
      rw [Bool.and_eq_true, decide_eq_true_iff] at h
      exact h.1
    exact .inl ⟨h, he, by unfold apply; rw [if_pos h]⟩
  · have hb : d.applyB o = false := by simpa using h
    have ha : d.apply o = d := by unfold apply; rw [hb]; rfl
    by_cases he : d.applyE o = 0
    · exact .inr (.inl ⟨hb, he, ha⟩)
    · exact .inr (.inr ⟨he, hb, ha⟩)
end LDoc
end Go.Proofs.YthfbjfocmnikaaaGreatDoor

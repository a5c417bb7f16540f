/- 2 texts in one: each says ahead of itself what is proved, and its conditions. -/
import Derived.Deep.CutBlock
import Derived.Deep.RegionHeld3
import Derived.Test.YthfbjfocmnikaaaGreatDoorDocHelp
import Derived.Test.YthfbjfocmnikaaaGreatDoorMarks
import Derived.Test.YthfbjfocmnikaaaGreatDoorNetAt
import Derived.Test.YthfbjfocmnikaaaGreatDoorSameLeafs
import Derived.Test.YthfbjfocmnikaaaGreatDoorSameMarks
/- slices.Equal of leafs and of marks, walked. Conditions: few elements. -/
namespace Go.Proofs.YthfbjfocmnikaaaGreatDoor
open Go.RowKit
set_option linter.unusedVariables false
namespace EqLeafs
open SameLeafs (dec eq_one same_one)
def Loop (w : World) (l m : List LLeaf) (i : Value) (wr : World) : Prop :=
  ∃ k : Nat, k ≤ l.length ∧ i = .int .i64 k ∧ Hid (Below w.heap.size w wr) ∧ Hid (decide (l = m) = decide (l.drop k = m.drop k))
set_option maxRecDepth 100000 in
set_option maxHeartbeats 1000000 in
theorem eqv (w : World) (A G : Option Addr) (ca cg : Nat) (l m : List LLeaf) (h1 : Reads w w.heap.size 3 A l.length (lcells l)) (h2 : Reads w w.heap.size 3 G m.length (lcells m)) (hl : l.length ≤ 1000000) (hm : m.length ≤ 1000000) :
    Calls Tryz.prog 111 #[.slice A l.length ca, .slice G m.length cg] w (SamePost w (decide (l = m))) := by
  have HR := Lib.hid h1
  have HS := Lib.hid h2
  clear h1 h2
  by_cases hlm : l.length = m.length
  · have HLM := Lib.hid hlm
    have e0 : ((l.length : Int) != (m.length : Int)) = false := by simp [hlm]
    have e1 : ((l.length : Int) == (m.length : Int)) = true := by simp [hlm]
    clear hlm
    go_enter Tryz.func111, Tryz.ntmps111
    go_wp2_with fail
    go_loopw [13] (fun i wr => Loop w l m i wr) (fun i _ => l.length - (intOf i).toNat)
    case atStart => exact ⟨0, by omega, rfl, Below.refl _ _, Lib.hid rfl⟩
    case round =>
      obtain ⟨k, hk, rfl, HB, HE⟩ := hrel
      by_cases hkn : k < l.length
      · have hkm : k < m.length := by have := HLM.out; omega
        obtain ⟨ad, hA, _, c0, c1, c2⟩ := (HR.out.below HB.out).leaf hkn
        obtain ⟨ag, hG, _, g0, g1, g2⟩ := (HS.out.below HB.out).leaf hkm
        have k1 : (k : Int) < (l.length : Int) := by omega
        have k2 : (k : Int) < (m.length : Int) := by omega
        have k0 : (0 : Int) ≤ (k : Int) := by omega
        subst hA hG
        have hdr : (l.drop k = m.drop k) = (l[k] = m[k] ∧ l.drop (k + 1) = m.drop (k + 1)) := by
          rw [List.drop_eq_getElem_cons hkn, List.drop_eq_getElem_cons hkm, List.cons.injEq]
        have HDR := Lib.hid hdr
        clear hdr
        generalize l[k] = x at *
        generalize m[k] = y at *
        obtain ⟨x0, x1, x2⟩ := x
        obtain ⟨y0, y1, y2⟩ := y
        simp only at c0 c1 c2 g0 g1 g2
        by_cases hxy : (⟨x0, x1, x2⟩ : LLeaf) = ⟨y0, y1, y2⟩
        · have HN : Hid (decide (l = m) = decide (l.drop (k + 1) = m.drop (k + 1))) := by
            show _ = _
            rw [HE.out]; congr 1; rw [HDR.out]; simp [hxy]
          have hq : ∀ W, (Op.equalIn 10000 115 (.agg #[.string x0, .int .i64 x1, .bool x2]) (.agg #[.string y0, .int .i64 y1, .bool y2])).run Tryz.prog W = .ok true W := fun W => by rw [eq_one, same_one, decide_eq_true hxy]
          clear HDR HE hxy
          go_wp2_with fail
          go_quiet (fail)
          go_wp2_with fail
          go_roundw
          case rel => exact ⟨k + 1, by omega, by go_num, below_drewN HB.out _, HN⟩
          case measure => simp [intOf]; omega
        · have HN : Hid (decide (l = m) = false) := by
            show _ = _
            rw [HE.out, decide_eq_false_iff_not, HDR.out]; exact fun h => hxy h.1
          have hq : ∀ W, (Op.equalIn 10000 115 (.agg #[.string x0, .int .i64 x1, .bool x2]) (.agg #[.string y0, .int .i64 y1, .bool y2])).run Tryz.prog W = .ok false W := fun W => by rw [eq_one, same_one, decide_eq_false hxy]
          clear HDR HE hxy
          go_wp2_with fail
          go_quiet (fail)
          go_wp2_with fail
          go_ret
          exact ⟨by rw [HN.out]; rfl, below_drewN HB.out _⟩
      · have HN : Hid (decide (l = m) = true) := by
          show _ = _
          rw [HE.out, List.drop_of_length_le (by omega), List.drop_of_length_le (by have := HLM.out; omega)]; rfl
        have hd : decide ((k : Int) < (l.length : Int)) = false := by simp; omega
        go_wp2_with fail
        go_ret
        exact ⟨by rw [HN.out]; rfl, HB.out⟩
  · have HF : Hid (decide (l = m) = false) := decide_eq_false (fun h => hlm (by rw [h]))
    have e0 : ((l.length : Int) != (m.length : Int)) = true := by simp; omega
    have e1 : ((l.length : Int) == (m.length : Int)) = false := by simp; omega
    clear hlm
    go_enter Tryz.func111, Tryz.ntmps111
    go_wp2_with fail
    go_ret
    exact ⟨by rw [HF.out]; rfl, Below.refl _ _⟩
end EqLeafs
namespace EqMarks
open SameMarks (dec eq_one same_one)
def Loop (w : World) (l m : List LMark) (i : Value) (wr : World) : Prop :=
  ∃ k : Nat, k ≤ l.length ∧ i = .int .i64 k ∧ Hid (Below w.heap.size w wr) ∧ Hid (decide (l = m) = decide (l.drop k = m.drop k))
set_option maxRecDepth 100000 in
set_option maxHeartbeats 1000000 in
theorem eqv (w : World) (A G : Option Addr) (ca cg : Nat) (l m : List LMark) (h1 : Reads w w.heap.size 3 A l.length (mcells l)) (h2 : Reads w w.heap.size 3 G m.length (mcells m)) (hl : l.length ≤ 1000000) (hm : m.length ≤ 1000000) :
    Calls Tryz.prog 112 #[.slice A l.length ca, .slice G m.length cg] w (SamePost w (decide (l = m))) := by
  have HR := Lib.hid h1
  have HS := Lib.hid h2
  clear h1 h2
  by_cases hlm : l.length = m.length
  · have HLM := Lib.hid hlm
    have e0 : ((l.length : Int) != (m.length : Int)) = false := by simp [hlm]
    have e1 : ((l.length : Int) == (m.length : Int)) = true := by simp [hlm]
    clear hlm
    go_enter Tryz.func112, Tryz.ntmps112
    go_wp2_with fail
    go_loopw [13] (fun i wr => Loop w l m i wr) (fun i _ => l.length - (intOf i).toNat)
    case atStart => exact ⟨0, by omega, rfl, Below.refl _ _, Lib.hid rfl⟩
    case round =>
      obtain ⟨k, hk, rfl, HB, HE⟩ := hrel
      by_cases hkn : k < l.length
      · have hkm : k < m.length := by have := HLM.out; omega
        obtain ⟨ad, hA, _, c0, c1, c2⟩ := (HR.out.below HB.out).mark hkn
        obtain ⟨ag, hG, _, g0, g1, g2⟩ := (HS.out.below HB.out).mark hkm
        have k1 : (k : Int) < (l.length : Int) := by omega
        have k2 : (k : Int) < (m.length : Int) := by omega
        have k0 : (0 : Int) ≤ (k : Int) := by omega
        subst hA hG
        have hdr : (l.drop k = m.drop k) = (l[k] = m[k] ∧ l.drop (k + 1) = m.drop (k + 1)) := by
          rw [List.drop_eq_getElem_cons hkn, List.drop_eq_getElem_cons hkm, List.cons.injEq]
        have HDR := Lib.hid hdr
        clear hdr
        generalize l[k] = x at *
        generalize m[k] = y at *
        obtain ⟨x0, ⟨x1, x2⟩⟩ := x
        obtain ⟨y0, ⟨y1, y2⟩⟩ := y
        simp only at c0 c1 c2 g0 g1 g2
        by_cases hxy : (⟨x0, ⟨x1, x2⟩⟩ : LMark) = ⟨y0, ⟨y1, y2⟩⟩
        · have HN : Hid (decide (l = m) = decide (l.drop (k + 1) = m.drop (k + 1))) := by
            show _ = _
            rw [HE.out]; congr 1; rw [HDR.out]; simp [hxy]
          have hq : ∀ W, (Op.equalIn 10000 136 (.agg #[.string x0, .int .i64 x1, .int .i64 x2]) (.agg #[.string y0, .int .i64 y1, .int .i64 y2])).run Tryz.prog W = .ok true W := fun W => by rw [eq_one, same_one, decide_eq_true hxy]
          clear HDR HE hxy
          go_wp2_with fail
          go_quiet (fail)
          go_wp2_with fail
          go_roundw
          case rel => exact ⟨k + 1, by omega, by go_num, below_drewN HB.out _, HN⟩
          case measure => simp [intOf]; omega
        · have HN : Hid (decide (l = m) = false) := by
            show _ = _
            rw [HE.out, decide_eq_false_iff_not, HDR.out]; exact fun h => hxy h.1
          have hq : ∀ W, (Op.equalIn 10000 136 (.agg #[.string x0, .int .i64 x1, .int .i64 x2]) (.agg #[.string y0, .int .i64 y1, .int .i64 y2])).run Tryz.prog W = .ok false W := fun W => by rw [eq_one, same_one, decide_eq_false hxy]
          clear HDR HE hxy
          go_wp2_with fail
          go_quiet (fail)
          go_wp2_with fail
          go_ret
          exact ⟨by rw [HN.out]; rfl, below_drewN HB.out _⟩
      · have HN : Hid (decide (l = m) = true) := by
          show _ = _
          rw [HE.out, List.drop_of_length_le (by omega), List.drop_of_length_le (by have := HLM.out; omega)]; rfl
        have hd : decide ((k : Int) < (l.length : Int)) = false := by simp; omega
        go_wp2_with fail
        go_ret
        exact ⟨by rw [HN.out]; rfl, HB.out⟩
  · have HF : Hid (decide (l = m) = false) := decide_eq_false (fun h => hlm (by rw [h]))
    have e0 : ((l.length : Int) != (m.length : Int)) = true := by simp; omega
    have e1 : ((l.length : Int) == (m.length : Int)) = false := by simp; omega
    clear hlm
    go_enter Tryz.func112, Tryz.ntmps112
    go_wp2_with fail
    go_ret
    exact ⟨by rw [HF.out]; rfl, Below.refl _ _⟩
end EqMarks
end Go.Proofs.YthfbjfocmnikaaaGreatDoor
/- (*net.Net).Same, walked. Conditions: the documents are right. -/
namespace Go.Proofs.YthfbjfocmnikaaaGreatDoor
open Go.RowKit
set_option linter.unusedVariables false
def sameD (a b : LDoc) : Bool := decide (a.book = b.book) && decide (a.marks = b.marks)
theorem sameD_iff {a b : LDoc} : sameD a b = decide (a.book = b.book ∧ a.marks = b.marks) := by
  unfold sameD
  by_cases h1 : a.book = b.book <;> by_cases h2 : a.marks = b.marks <;> simp [h1, h2]
set_option maxRecDepth 100000 in
set_option maxHeartbeats 8000000 in
theorem nsame_fn_t (w : World) (B1 B2 : Nat) (S1 S2 : List Nat) (p q f : Nat) (s1 s2 : LDoc) (D1 D2 : DLay) (h1 : DocIs w B1 S1 p s1 D1) (h2 : DocIs w B2 S2 q s2 D2) (ok1 : s1.Ok) (ok2 : s2.Ok) (hf : w.cell? ⟨f, 0, none⟩ = some (.pointer (some ⟨q, 0, none⟩))) (hfl : f < w.heap.size) (hbk : s1.book = s2.book) :
    Calls Tryz.prog 110 #[.pointer (some ⟨p, 0, none⟩), .pointer (some ⟨f, 0, none⟩)] w (CheckPost w (.bool (!sameD s1 s2))) := by
  have HF : Hid (∀ W, Below w.heap.size w W → W.cell? ⟨f, 0, none⟩ = some (.pointer (some ⟨q, 0, none⟩))) := fun W hW => (hW.cell (p := ⟨f, 0, none⟩) hfl).trans hf
  have HP1 := Lib.hid (fun W (hW : Below w.heap.size w W) => book_doc W B1 S1 p s1 D1 (h1.below hW) ok1)
  have HQ1 := Lib.hid (fun W (hW : Below w.heap.size w W) => book_doc W B2 S2 q s2 D2 (h2.below hW) ok2)
  have HP2 := Lib.hid (fun W (hW : Below w.heap.size w W) => marks_doc W B1 S1 p s1 D1 (h1.below hW) ok1)
  have HQ2 := Lib.hid (fun W (hW : Below w.heap.size w W) => marks_doc W B2 S2 q s2 D2 (h2.below hW) ok2)
  unfold RowPost at HP1 HQ1 HP2 HQ2
  have n1 := ok1.book.few
  have n2 := ok2.book.few
  have n3 := ok1.marks.few
  have n4 := ok2.marks.few
  have HBc : Hid (Below w.heap.size w w) := Below.refl _ _
  have HEL := Lib.hid (fun (W : World) (A G : Option Addr) (ca cg : Nat) h1 h2 => EqLeafs.eqv W A G ca cg s1.book s2.book h1 h2 (by omega) (by omega))
  have HEM := Lib.hid (fun (W : World) (A G : Option Addr) (ca cg : Nat) h1 h2 => EqMarks.eqv W A G ca cg s1.marks s2.marks h1 h2 (by omega) (by omega))
  unfold SamePost at HEL HEM
  have HRES : Hid (sameD s1 s2 = (decide (s1.book = s2.book) && decide (s1.marks = s2.marks))) := rfl
  rw [HRES.out]
  clear h1 h2 ok1 ok2 HRES n1 n2 n3 n4 hfl
  generalize s1.book = l1 at *
  generalize s2.book = l2 at *
  generalize s1.marks = m1 at *
  generalize s2.marks = m2 at *
  obtain ⟨u, hu⟩ : ∃ u, u = decide (l1 = l2) := ⟨_, rfl⟩
  have huv : true = u := by rw [hu, decide_eq_true hbk]
  clear hbk
  obtain ⟨v, hv⟩ : ∃ v, v = decide (m1 = m2) := ⟨_, rfl⟩
  rw [← hu, ← hv]
  have HEL2 := Lib.hid HEL.out
  have HEM2 := Lib.hid HEM.out
  rw [← hu] at HEL2
  rw [← hv] at HEM2
  clear hu hv HEL HEM
  go_enter Tryz.func110, Tryz.ntmps110
  obtain rfl := huv
  go_wp2_with fail
  go_region_law (first
    | (go_simp; go_at_call 23; with_reducible show Calls _ _ #[Value.pointer (some ⟨p, 0, none⟩)] _ _; refine (HP1.out _ (by first | exact HBc.out | exact below_drewN HBc.out _ | exact HBc.out.drew)).mono ?_; rintro r w3 ⟨V1, c1, rfl, hO, hb⟩
       have hb2 : Below w.heap.size w w3 := by first | exact HBc.out.trans (hb.mono HBc.out.size) | exact HBc.out.trans ((below_of_drew hb).mono HBc.out.size) | exact HBc.out.trans ((below_of_drewN hb).mono HBc.out.size)
       have HR1 := Lib.hid hO.reads
       clear hf HBc
       have HBc := Lib.hid hb2
       have hf := HF.out _ hb2
       clear hO hb hb2)
    | (go_simp; go_at_call 23; with_reducible show Calls _ _ #[Value.pointer (some ⟨q, 0, none⟩)] _ _; refine (HQ1.out _ (by first | exact HBc.out | exact below_drewN HBc.out _ | exact HBc.out.drew)).mono ?_; rintro r w4 ⟨V2, c2, rfl, hO, hb⟩
       have hb2 : Below w.heap.size w w4 := by first | exact HBc.out.trans (hb.mono HBc.out.size) | exact HBc.out.trans ((below_of_drew hb).mono HBc.out.size) | exact HBc.out.trans ((below_of_drewN hb).mono HBc.out.size)
       have HR2 := Lib.hid hO.reads
       have hb3 : Below w3.heap.size w3 w4 := by first | exact hb | exact below_of_drew hb | exact below_of_drewN hb
       have HR1n := Lib.hid ((HR1.out.below hb3).more hb3.size)
       clear hb3
       clear hf HBc
       have HBc := Lib.hid hb2
       have hf := HF.out _ hb2
       clear hO hb hb2)
    | (go_simp; go_at_call 111; refine (HEL2.out _ V1 V2 c1 c2 (by first | exact HR1n.out | exact HR1n.out.drew | exact HR1n.out.drewN _) (by first | exact HR2.out | exact HR2.out.drew | exact HR2.out.drewN _)).mono ?_; rintro r w5 ⟨rfl, hb⟩
       have hb2 : Below w.heap.size w w5 := by first | exact HBc.out.trans (hb.mono HBc.out.size) | exact HBc.out.trans ((below_of_drew hb).mono HBc.out.size) | exact HBc.out.trans ((below_of_drewN hb).mono HBc.out.size)
       clear hf HBc
       have HBc := Lib.hid hb2
       have hf := HF.out _ hb2
       clear hb hb2)
    | (go_simp; go_at_call 25; with_reducible show Calls _ _ #[Value.pointer (some ⟨p, 0, none⟩)] _ _; refine (HP2.out _ (by first | exact HBc.out | exact below_drewN HBc.out _ | exact HBc.out.drew)).mono ?_; rintro r w6 ⟨V3, c3, rfl, hO, hb⟩
       have hb2 : Below w.heap.size w w6 := by first | exact HBc.out.trans (hb.mono HBc.out.size) | exact HBc.out.trans ((below_of_drew hb).mono HBc.out.size) | exact HBc.out.trans ((below_of_drewN hb).mono HBc.out.size)
       have HR3 := Lib.hid hO.reads
       clear hf HBc
       have HBc := Lib.hid hb2
       have hf := HF.out _ hb2
       clear hO hb hb2)
    | (go_simp; go_at_call 25; with_reducible show Calls _ _ #[Value.pointer (some ⟨q, 0, none⟩)] _ _; refine (HQ2.out _ (by first | exact HBc.out | exact below_drewN HBc.out _ | exact HBc.out.drew)).mono ?_; rintro r w7 ⟨V4, c4, rfl, hO, hb⟩
       have hb2 : Below w.heap.size w w7 := by first | exact HBc.out.trans (hb.mono HBc.out.size) | exact HBc.out.trans ((below_of_drew hb).mono HBc.out.size) | exact HBc.out.trans ((below_of_drewN hb).mono HBc.out.size)
       have HR4 := Lib.hid hO.reads
       have hb3 : Below w6.heap.size w6 w7 := by first | exact hb | exact below_of_drew hb | exact below_of_drewN hb
       have HR3n := Lib.hid ((HR3.out.below hb3).more hb3.size)
       clear hb3
       clear hf HBc
       have HBc := Lib.hid hb2
       have hf := HF.out _ hb2
       clear hO hb hb2)
    | (go_simp; go_at_call 112; refine (HEM2.out _ V3 V4 c3 c4 (by first | exact HR3n.out | exact HR3n.out.drew | exact HR3n.out.drewN _) (by first | exact HR4.out | exact HR4.out.drew | exact HR4.out.drewN _)).mono ?_; rintro r w8 ⟨rfl, hb⟩
       have hb2 : Below w.heap.size w w8 := by first | exact HBc.out.trans (hb.mono HBc.out.size) | exact HBc.out.trans ((below_of_drew hb).mono HBc.out.size) | exact HBc.out.trans ((below_of_drewN hb).mono HBc.out.size)
       clear hf HBc
       have HBc := Lib.hid hb2
       have hf := HF.out _ hb2
       clear hb hb2))
  all_goals
    go_wp2_with fail
    go_ret
    exact ⟨rfl, HBc.out⟩
end Go.Proofs.YthfbjfocmnikaaaGreatDoor

/- 7 texts in one: each says ahead of itself what is proved, and its conditions. -/
import Derived.Deep.CutBlock
import Derived.Deep.RegionHeld3
import Derived.Test.YthfbjfocmnikaaaGreatDoorBookWrite
import Derived.Test.YthfbjfocmnikaaaGreatDoorBytes
import Derived.Test.YthfbjfocmnikaaaGreatDoorDocApply
import Derived.Test.YthfbjfocmnikaaaGreatDoorMarkCut
import Derived.Test.YthfbjfocmnikaaaGreatDoorMarkLaw
import Derived.Test.YthfbjfocmnikaaaGreatDoorRefIn
import Derived.Test.YthfbjfocmnikaaaGreatDoorRefLay
import Derived.Test.YthfbjfocmnikaaaGreatDoorRefText
import Derived.Test.YthfbjfocmnikaaaGreatDoorSame0
import Derived.Test.YthfbjfocmnikaaaGreatDoorSameMarks
/- The document's set, walked. Conditions: a book that is not too long. -/
namespace Go.Proofs.YthfbjfocmnikaaaGreatDoor
open Go.RowKit
set_option linter.unusedVariables false
/-- A book and a number are given back; the book is of the call's own. -/
def RLeafsPost (w : World) (l : List LLeaf) (k : Int) (e : Ending) (w' : World) : Prop :=
  ∃ V c, e = .returned (.tuple #[.slice V l.length c, .int .i64 k]) ∧ Own w' w.heap.size 115 3 V l.length c (lcells l) ∧ Below w.heap.size w w'
theorem rleafs_none {w w' : World} {k : Int} (hb : Below w.heap.size w w') : RLeafsPost w [] k (.returned (.tuple #[.slice none 0 0, .int .i64 k])) w' := ⟨none, 0, rfl, Own.nil _ _ _ _, hb⟩
set_option maxRecDepth 100000 in
set_option maxHeartbeats 4000000 in
theorem rset_has (w : World) (A : Option Addr) (c : Nat) (l : List LLeaf) (i : Nat) (x : LLeaf) (h : Reads w w.heap.size 3 A l.length (lcells l)) (hn : l.length ≤ 300) (hc : l.length ≤ c) (hcm : c ≤ 9223372036854775807) (hi : i < l.length) :
    Calls Tryz.prog 130 #[.slice A l.length c, .int .i64 i, .bool true, .agg #[.string x.place, .int .i64 x.letter, .bool x.struck]] w (RLeafsPost w (l.set i x) 0) := by
  obtain ⟨p, n, s⟩ := x
  have HB0 : Hid (Below w.heap.size w (w.alloc (.cells #[.string p, .int .i64 n, .bool s] 115))) := (Below.refl _ _).alloc (Nat.le_refl _) _
  have HBK := Lib.hid (Blk.new w 115 #[.string p, .int .i64 n, .bool s])
  have HR := Lib.hid h
  have hsl1 := fun W => run_nilslice InsLeaf.elem A l.length c i (by omega) W
  have hsl2 := fun W => run_tailAt InsLeaf.elem A l.length c (i + 1) (by omega) W
  have hsl2' : ∀ W, (Instr.sliceAt 49 (.slice A l.length c) (some (.int .i64 ((i : Int) + 1))) none none).run Tryz.prog W = .ok (.slice (tailA A c (i + 1) 3) (l.length - (i + 1)) (c - (i + 1))) W := hsl2
  clear hsl2
  have hF1 : Fits (0 + i) 32 := Fits.of_small (by omega) (by decide)
  have hF2 : Fits (i + 1) 32 := Fits.of_small (by omega) (by decide)
  have hF3 : Fits (i + 1 + (l.length - (i + 1))) 32 := Fits.of_small (by omega) (by decide)
  have HT : Hid (Reads w w.heap.size 3 A i ((lcells l).take (i * 3))) := h.head (by omega)
  have HD : Hid (Reads w w.heap.size 3 (tailA A c (i + 1) 3) (l.length - (i + 1)) ((lcells l).drop ((i + 1) * 3))) := h.tail (by omega) hc
  have h1 : OneCells ((lcells l).take (i * 3)) := fun u hu => oneCells_l l u (List.mem_of_mem_take hu)
  have h2 : OneCells ((lcells l).drop ((i + 1) * 3)) := fun u hu => oneCells_l l u (List.mem_of_mem_drop hu)
  have h3 : OneCells (LLeaf.cells ⟨p, n, s⟩) := by intro u hu; simp [LLeaf.cells] at hu; rcases hu with rfl | rfl | rfl <;> rfl
  have q1 : IntKind.i64.wrap ((i : Int) + 1) = (i : Int) + 1 := IntWalk.i64_in _ (by omega)
  have hi0 : (i : Int) < (l.length : Int) := by omega
  clear h
  go_enter Tryz.func130, Tryz.ntmps130
  go_upto_region 5 with (at_builtin; refine wpList_app _ (.tmp 18) (.tmp 21) rfl rfl InsLeaf.elem rfl rfl (Own.nil _ (w.heap.size + 1) _ 3) (HT.out.below HB0.out) h1 hF1 (by simp) ?_; intro V1 c1 w1 hO1 hL1 hG1)
  rw [Nat.zero_add, List.nil_append] at hO1
  have HO1 := Lib.hid hO1
  have HB1 : Hid (Below w.heap.size w w1) := HB0.out.trans (hL1.below (B := w.heap.size) (by simp) (by simp [ob]))
  have hbk1 := hL1.blk HBK.out (by simp [ob])
  have HBK1 := Lib.hid hbk1
  have b0 : w1.cell? ⟨w.heap.size, 0, none⟩ = some (.string p) := by rw [hbk1.cell]; rfl
  have b1 : w1.cell? ⟨w.heap.size, 1, none⟩ = some (.int .i64 n) := by rw [hbk1.cell]; rfl
  have b2 : w1.cell? ⟨w.heap.size, 2, none⟩ = some (.bool s) := by rw [hbk1.cell]; rfl
  have hz1 : w.heap.size + 1 ≤ w1.heap.size := hbk1.lt
  have HRX := Lib.hid (fun W : World => Reads.row W 115 #[.string p, .int .i64 n, .bool s])
  clear hO1 hL1 hG1 hbk1
  go_upto_region 6 with (at_builtin; refine wpList_app _ (.tmp 23) (.tmp 25) rfl rfl InsLeaf.elem rfl rfl (HO1.out.alloc _) (HRX.out w1) h3 hF2 (by simp <;> omega) ?_; intro V2 c2 w2 hO2 hL2 hG2)
  have HO2 := Lib.hid hO2
  have HB2 : Hid (Below w.heap.size w w2) := (HB1.out.alloc HB1.out.size _).trans (hL2.below (by simp <;> omega) (fun g hg => by have := (HO1.out.lt g hg).1; omega))
  have hz2 : w.heap.size + 1 ≤ w2.heap.size := by have := hL2.size; simp at this; omega
  clear hO2 hL2 hG2 b0 b1 b2
  go_wp2_with (at_builtin; refine wpList_app _ (.tmp 30) (.tmp 33) rfl rfl InsLeaf.elem rfl rfl HO2.out (HD.out.below HB2.out) h2 hF3 hz2 ?_; intro V3 c3 w3 hO3 hL3 hG3)
  go_ret2
  have hlen : (l.set i ⟨p, n, s⟩).length = i + 1 + (l.length - (i + 1)) := by rw [List.length_set]; omega
  have hcl : lcells (l.set i ⟨p, n, s⟩) = ((lcells l).take (i * 3) ++ LLeaf.cells ⟨p, n, s⟩) ++ (lcells l).drop ((i + 1) * 3) := by
    rw [lcells_take, lcells_drop, List.set_eq_take_append_cons_drop, if_pos hi]
    simp [lcells]
  refine ⟨V3, c3, by rw [hlen]; simp, ?_, HB2.out.trans (hL3.below HB2.out.size (fun g hg => by have := (HO2.out.lt g hg).1; omega))⟩
  rw [hlen, hcl]
  have := hO3.mono (show w.heap.size ≤ w.heap.size + 1 by omega)
  exact this
set_option maxRecDepth 100000 in
set_option maxHeartbeats 4000000 in
theorem rset_new (w : World) (A : Option Addr) (c : Nat) (l : List LLeaf) (i : Nat) (x : LLeaf) (h : Reads w w.heap.size 3 A l.length (lcells l)) (hn : l.length ≤ 300) (hc : l.length ≤ c) (hcm : c ≤ 9223372036854775807) (hi : i ≤ l.length) :
    Calls Tryz.prog 130 #[.slice A l.length c, .int .i64 i, .bool false, .agg #[.string x.place, .int .i64 x.letter, .bool x.struck]] w (RLeafsPost w (putRes l i x) (putErr l)) := by
  obtain ⟨p, n, s⟩ := x
  by_cases hf : 300 ≤ l.length
  · have HE : Hid (putErr l = 4 ∧ putRes l i ⟨p, n, s⟩ = []) := ⟨if_pos hf, if_pos hf⟩
    go_enter Tryz.func130, Tryz.ntmps130
    go_wp2_with fail
    go_ret2
    rw [HE.out.1, HE.out.2]
    exact rleafs_none ((Below.refl _ _).alloc (Nat.le_refl _) _)
  have HE : Hid (putErr l = 0 ∧ putRes l i ⟨p, n, s⟩ = bookPut l i ⟨p, n, s⟩) := ⟨if_neg hf, if_neg hf⟩
  have HB0 : Hid (Below w.heap.size w (w.alloc (.cells #[.string p, .int .i64 n, .bool s] 115))) := (Below.refl _ _).alloc (Nat.le_refl _) _
  have HBK := Lib.hid (Blk.new w 115 #[.string p, .int .i64 n, .bool s])
  have HR := Lib.hid h
  have hsl1 := fun W => run_nilslice InsLeaf.elem A l.length c i (by omega) W
  have hsl2 := fun W => run_tailAt InsLeaf.elem A l.length c i (by omega) W
  have hF1 : Fits (0 + i) 32 := Fits.of_small (by omega) (by decide)
  have hF2 : Fits (i + 1) 32 := Fits.of_small (by omega) (by decide)
  have hF3 : Fits (i + 1 + (l.length - i)) 32 := Fits.of_small (by omega) (by decide)
  have HT : Hid (Reads w w.heap.size 3 A i ((lcells l).take (i * 3))) := h.head (by omega)
  have HD : Hid (Reads w w.heap.size 3 (tailA A c i 3) (l.length - i) ((lcells l).drop (i * 3))) := h.tail (by omega) hc
  have h1 : OneCells ((lcells l).take (i * 3)) := fun u hu => oneCells_l l u (List.mem_of_mem_take hu)
  have h2 : OneCells ((lcells l).drop (i * 3)) := fun u hu => oneCells_l l u (List.mem_of_mem_drop hu)
  have h3 : OneCells (LLeaf.cells ⟨p, n, s⟩) := by intro u hu; simp [LLeaf.cells] at hu; rcases hu with rfl | rfl | rfl <;> rfl
  have hi0 : (i : Int) ≤ (l.length : Int) := by omega
  clear h
  go_enter Tryz.func130, Tryz.ntmps130
  go_upto_region 5 with (at_builtin; refine wpList_app _ (.tmp 18) (.tmp 21) rfl rfl InsLeaf.elem rfl rfl (Own.nil _ (w.heap.size + 1) _ 3) (HT.out.below HB0.out) h1 hF1 (by simp) ?_; intro V1 c1 w1 hO1 hL1 hG1)
  rw [Nat.zero_add, List.nil_append] at hO1
  have HO1 := Lib.hid hO1
  have HB1 : Hid (Below w.heap.size w w1) := HB0.out.trans (hL1.below (B := w.heap.size) (by simp) (by simp [ob]))
  have hbk1 := hL1.blk HBK.out (by simp [ob])
  have HBK1 := Lib.hid hbk1
  have b0 : w1.cell? ⟨w.heap.size, 0, none⟩ = some (.string p) := by rw [hbk1.cell]; rfl
  have b1 : w1.cell? ⟨w.heap.size, 1, none⟩ = some (.int .i64 n) := by rw [hbk1.cell]; rfl
  have b2 : w1.cell? ⟨w.heap.size, 2, none⟩ = some (.bool s) := by rw [hbk1.cell]; rfl
  have hz1 : w.heap.size + 1 ≤ w1.heap.size := hbk1.lt
  have HRX := Lib.hid (fun W : World => Reads.row W 115 #[.string p, .int .i64 n, .bool s])
  clear hO1 hL1 hG1 hbk1
  go_upto_region 6 with (at_builtin; refine wpList_app _ (.tmp 23) (.tmp 25) rfl rfl InsLeaf.elem rfl rfl (HO1.out.alloc _) (HRX.out w1) h3 hF2 (by simp <;> omega) ?_; intro V2 c2 w2 hO2 hL2 hG2)
  have HO2 := Lib.hid hO2
  have HB2 : Hid (Below w.heap.size w w2) := (HB1.out.alloc HB1.out.size _).trans (hL2.below (by simp <;> omega) (fun g hg => by have := (HO1.out.lt g hg).1; omega))
  have hz2 : w.heap.size + 1 ≤ w2.heap.size := by have := hL2.size; simp at this; omega
  clear hO2 hL2 hG2 b0 b1 b2
  go_wp2_with (at_builtin; refine wpList_app _ (.tmp 30) (.tmp 33) rfl rfl InsLeaf.elem rfl rfl HO2.out (HD.out.below HB2.out) h2 hF3 hz2 ?_; intro V3 c3 w3 hO3 hL3 hG3)
  go_ret2
  rw [HE.out.1, HE.out.2]
  have hlen : (bookPut l i ⟨p, n, s⟩).length = i + 1 + (l.length - i) := by rw [bookPut_len _ _ _ hi]; omega
  have hcl : lcells (bookPut l i ⟨p, n, s⟩) = ((lcells l).take (i * 3) ++ LLeaf.cells ⟨p, n, s⟩) ++ (lcells l).drop (i * 3) := (lcells_put l i ⟨p, n, s⟩).symm
  refine ⟨V3, c3, by rw [hlen]; simp, ?_, HB2.out.trans (hL3.below HB2.out.size (fun g hg => by have := (HO2.out.lt g hg).1; omega))⟩
  rw [hlen, hcl]
  have := hO3.mono (show w.heap.size ≤ w.heap.size + 1 by omega)
  exact this
end Go.Proofs.YthfbjfocmnikaaaGreatDoor
/- The document's Write, Strike, walked. Conditions: a book that is right. -/
namespace Go.Proofs.YthfbjfocmnikaaaGreatDoor
open Go.RowKit
set_option linter.unusedVariables false
/-- What is wrong with a letter at a place, of a book that is right. -/
def rwErr (l : List LLeaf) (p : ByteArray) (n : Int) : Int :=
  if letterB n = false then 1 else if hasAt l p = false then putErr l else if (leafAt l p).letter ≠ 0 ∧ (leafAt l p).letter ≠ n then 7 else 0
theorem writeErr_ready {l : List LLeaf} {p : ByteArray} (h : bookReady l p = 0) (n : Int) : writeErr l p n = rwErr l p n := by unfold writeErr rwErr; rw [if_neg (fun hh => hh h)]
def rsErr (l : List LLeaf) (p : ByteArray) : Int := if hasAt l p = false then putErr l else 0
theorem strikeErr_ready {l : List LLeaf} {p : ByteArray} (h : bookReady l p = 0) : strikeErr l p = rsErr l p := by unfold strikeErr rsErr; rw [if_neg (fun hh => hh h)]
theorem leafAt_has {l : List LLeaf} {p : ByteArray} (h : hasAt l p = true) : ∃ hi : ahead l p < l.length, leafAt l p = l[ahead l p] ∧ (leafAt l p).place = p := by
  have hlt := hasAt_lt h
  have hla : leafAt l p = l[ahead l p] := by unfold leafAt; simp [List.getD, hlt]
  refine ⟨hlt, hla, ?_⟩
  unfold hasAt at h
  rw [List.getElem?_eq_getElem hlt] at h
  rw [hla]
  exact same_toList.1 (by simpa using h)
set_option maxRecDepth 100000 in
set_option maxHeartbeats 2000000 in
theorem rwrite_any (w : World) (A : Option Addr) (c : Nat) (l : List LLeaf) (p : ByteArray) (n : Int) (h : Reads w w.heap.size 3 A l.length (lcells l)) (ok : BookOk l) (hc : l.length ≤ c) (hcm : c ≤ 9223372036854775807) :
    Calls Tryz.prog 68 #[.slice A l.length c, .string p, .int .i64 n] w (RLeafsPost w (giveL (rwErr l p n) (writeRes l p n)) (rwErr l p n)) := by
  have HL := Lib.hid (fun w => rletter_any w n)
  have HA := Lib.hid (fun w (h : Reads w w.heap.size 3 A l.length (lcells l)) => rahead_any w A c l p h (by have := ok.few; omega) ok.rising)
  have hfew := ok.few
  have HR := Lib.hid h
  clear ok
  by_cases hl : letterB n = true
  · have HLt := Lib.hid hl
    cases hh : hasAt l p with
    | false =>
      have hal := ahead_le l p
      have HS := Lib.hid (fun W (h : Reads W W.heap.size 3 A l.length (lcells l)) => rset_new W A c l (ahead l p) ⟨p, n, false⟩ h hfew hc hcm hal)
      have HW : Hid (rwErr l p n = putErr l ∧ giveL (rwErr l p n) (writeRes l p n) = putRes l (ahead l p) ⟨p, n, false⟩) := by
        have h1 : rwErr l p n = putErr l := by unfold rwErr; rw [if_neg (by rw [hl]; decide), if_pos hh]
        exact ⟨h1, by rw [h1, putRes_give, writeRes, if_neg (by rw [hh]; decide)]⟩
      by_cases hlt : ahead l p < l.length
      · obtain ⟨ad, hA, hb, c0, _, _⟩ := h.leaf hlt
        have hne : (l[ahead l p].place.toList == p.toList) = false := by
          unfold hasAt at hh
          rw [List.getElem?_eq_getElem hlt] at hh
          exact hh
        have i0 : (0 : Int) ≤ (ahead l p : Int) := by omega
        have i1 : (ahead l p : Int) < (l.length : Int) := by omega
        clear hl hh h
        subst hA
        generalize l[ahead l p].place = q at *
        go_enter Tryz.func68, Tryz.ntmps68
        go_wp2_with fail
        refine (HL.out _).mono ?_
        rintro e w1 ⟨rfl, rfl⟩
        rw [HLt.out]
        go_wp2_with fail
        refine (HA.out _ HR.out).mono ?_
        rintro e w1 ⟨rfl, rfl⟩
        have HRA := Lib.hid (HR.out.alloc (Nat.le_refl _) (.cells #[.string p, .int .i64 n, .bool false] 115))
        go_wp2_with fail
        refine (HS.out _ (HRA.out.more (by simp))).mono ?_
        rintro e w3 ⟨V, cV, rfl, hO3, hb3⟩
        have HO3 := Lib.hid hO3
        have HB3 := Lib.hid hb3
        clear hb3 hO3
        go_wp2_with fail
        go_ret2
        rw [HW.out.2, HW.out.1]
        exact ⟨V, cV, rfl, HO3.out.mono (by simp), ((Below.refl _ _).alloc (Nat.le_refl _) _).trans (HB3.out.mono (by simp))⟩
      · have d1 : decide ((ahead l p : Int) < (l.length : Int)) = false := decide_eq_false (by omega)
        clear hl hh h
        go_enter Tryz.func68, Tryz.ntmps68
        go_wp2_with fail
        refine (HL.out _).mono ?_
        rintro e w1 ⟨rfl, rfl⟩
        rw [HLt.out]
        go_wp2_with fail
        refine (HA.out _ HR.out).mono ?_
        rintro e w1 ⟨rfl, rfl⟩
        have HRA := Lib.hid (HR.out.alloc (Nat.le_refl _) (.cells #[.string p, .int .i64 n, .bool false] 115))
        go_wp2_with fail
        refine (HS.out _ (HRA.out.more (by simp))).mono ?_
        rintro e w3 ⟨V, cV, rfl, hO3, hb3⟩
        have HO3 := Lib.hid hO3
        have HB3 := Lib.hid hb3
        clear hb3 hO3
        go_wp2_with fail
        go_ret2
        rw [HW.out.2, HW.out.1]
        exact ⟨V, cV, rfl, HO3.out.mono (by simp), ((Below.refl _ _).alloc (Nat.le_refl _) _).trans (HB3.out.mono (by simp))⟩
    | true =>
      obtain ⟨hlt, hla, hpl⟩ := leafAt_has hh
      obtain ⟨ad, hA, hb, c0, c1, c2⟩ := h.leaf hlt
      rw [← hla] at c0 c1 c2
      rw [hpl] at c0
      have HWR : Hid (writeRes l p n = l.set (ahead l p) ⟨p, n, (leafAt l p).struck⟩) := by show _ = _; rw [writeRes, if_pos hh]; unfold LLeaf.write; rw [hpl]
      have hwe : rwErr l p n = if (leafAt l p).letter ≠ 0 ∧ (leafAt l p).letter ≠ n then 7 else 0 := by unfold rwErr; rw [if_neg (by rw [hl]; decide), if_neg (by rw [hh]; decide)]
      have HS := Lib.hid (fun W b (h : Reads W W.heap.size 3 A l.length (lcells l)) => rset_has W A c l (ahead l p) ⟨p, n, b⟩ h hfew hc hcm hlt)
      have i0 : (0 : Int) ≤ (ahead l p : Int) := by omega
      have i1 : (ahead l p : Int) < (l.length : Int) := by omega
      have b0 : (p.toList == p.toList) = true := by simp
      have hadb : (ad.add (ahead l p * 3)).block < w.heap.size := by rw [block_of_add]; exact hb
      clear hl hh h hla hpl
      subst hA
      generalize leafAt l p = x at *
      have d1 : ∀ o, (w.alloc o).cell? ⟨(ad.add (ahead l p * 3)).block, (ad.add (ahead l p * 3)).off + 1, none⟩ = some (.int .i64 x.letter) := fun o => (World.cell?_alloc_lt w o _ (by exact hadb)).trans c1
      have d2 : ∀ o, (w.alloc o).cell? ⟨(ad.add (ahead l p * 3)).block, (ad.add (ahead l p * 3)).off + 2, none⟩ = some (.bool x.struck) := fun o => (World.cell?_alloc_lt w o _ (by exact hadb)).trans c2
      by_cases hbad : x.letter ≠ 0 ∧ x.letter ≠ n
      · have HW : Hid (rwErr l p n = 7) := by show _ = _; rw [hwe, if_pos hbad]
        have g1 : (x.letter != 0) = true := by simpa using hbad.1
        have g2 : (x.letter != n) = true := by simpa using hbad.2
        clear hwe hbad
        go_enter Tryz.func68, Tryz.ntmps68
        go_wp2_with fail
        refine (HL.out _).mono ?_
        rintro e w1 ⟨rfl, rfl⟩
        rw [HLt.out]
        go_wp2_with fail
        refine (HA.out _ HR.out).mono ?_
        rintro e w1 ⟨rfl, rfl⟩
        go_wp2_with fail
        go_ret2
        rw [HW.out, giveL_bad (by decide)]
        exact rleafs_none ((Below.refl _ _).alloc (Nat.le_refl _) _)
      · have HW : Hid (rwErr l p n = 0) := by show _ = _; rw [hwe, if_neg hbad]
        have HG := Lib.hid hbad
        clear hwe hbad
        by_cases h0 : x.letter = 0
        · have g1 : (x.letter != 0) = false := by simp [h0]
          clear h0
          go_enter Tryz.func68, Tryz.ntmps68
          go_wp2_with fail
          refine (HL.out _).mono ?_
          rintro e w1 ⟨rfl, rfl⟩
          rw [HLt.out]
          go_wp2_with fail
          refine (HA.out _ HR.out).mono ?_
          rintro e w1 ⟨rfl, rfl⟩
          have HRA := Lib.hid (HR.out.alloc (Nat.le_refl _) (.cells #[.string p, .int .i64 n, .bool x.struck] 115))
          go_wp2_with fail
          refine (HS.out _ _ (HRA.out.more (by simp))).mono ?_
          rintro e w3 ⟨V, cV, rfl, hO3, hb3⟩
          have HO3 := Lib.hid hO3
          have HB3 := Lib.hid hb3
          clear hb3 hO3
          go_wp2_with fail
          go_ret2
          rw [HW.out, giveL, if_pos rfl, HWR.out]
          exact ⟨V, cV, by rw [List.length_set]; rfl, HO3.out.mono (by simp), ((Below.refl _ _).alloc (Nat.le_refl _) _).trans (HB3.out.mono (by simp))⟩
        · have g1 : (x.letter != 0) = true := by simpa using h0
          have g2 : (x.letter != n) = false := by
            cases hc : (x.letter != n)
            · rfl
            · exact absurd ⟨h0, by simpa using hc⟩ HG.out
          clear h0
          go_enter Tryz.func68, Tryz.ntmps68
          go_wp2_with fail
          refine (HL.out _).mono ?_
          rintro e w1 ⟨rfl, rfl⟩
          rw [HLt.out]
          go_wp2_with fail
          refine (HA.out _ HR.out).mono ?_
          rintro e w1 ⟨rfl, rfl⟩
          have HRA := Lib.hid (HR.out.alloc (Nat.le_refl _) (.cells #[.string p, .int .i64 n, .bool x.struck] 115))
          go_wp2_with fail
          refine (HS.out _ _ (HRA.out.more (by simp))).mono ?_
          rintro e w3 ⟨V, cV, rfl, hO3, hb3⟩
          have HO3 := Lib.hid hO3
          have HB3 := Lib.hid hb3
          clear hb3 hO3
          go_wp2_with fail
          go_ret2
          rw [HW.out, giveL, if_pos rfl, HWR.out]
          exact ⟨V, cV, by rw [List.length_set]; rfl, HO3.out.mono (by simp), ((Below.refl _ _).alloc (Nat.le_refl _) _).trans (HB3.out.mono (by simp))⟩
  · have hl2 : letterB n = false := by simpa using hl
    have HLt := Lib.hid hl2
    have HW : Hid (rwErr l p n = 1) := by show _ = _; unfold rwErr; rw [if_pos hl2]
    clear hl hl2 h
    go_enter Tryz.func68, Tryz.ntmps68
    go_wp2_with fail
    refine (HL.out _).mono ?_
    rintro e w1' ⟨rfl, rfl⟩
    rw [HLt.out]
    go_wp2_with fail
    go_ret2
    rw [HW.out, giveL_bad (by decide)]
    exact rleafs_none (Below.refl _ _)
set_option maxRecDepth 100000 in
set_option maxHeartbeats 2000000 in
theorem rstrike_any (w : World) (A : Option Addr) (c : Nat) (l : List LLeaf) (p : ByteArray) (h : Reads w w.heap.size 3 A l.length (lcells l)) (ok : BookOk l) (hc : l.length ≤ c) (hcm : c ≤ 9223372036854775807) :
    Calls Tryz.prog 69 #[.slice A l.length c, .string p] w (RLeafsPost w (giveL (rsErr l p) (strikeRes l p)) (rsErr l p)) := by
  have HA := Lib.hid (fun w (h : Reads w w.heap.size 3 A l.length (lcells l)) => rahead_any w A c l p h (by have := ok.few; omega) ok.rising)
  have hfew := ok.few
  have HR := Lib.hid h
  clear ok
  cases hh : hasAt l p with
  | false =>
    have hal := ahead_le l p
    have HS := Lib.hid (fun W (h : Reads W W.heap.size 3 A l.length (lcells l)) => rset_new W A c l (ahead l p) ⟨p, 0, true⟩ h hfew hc hcm hal)
    have HW : Hid (rsErr l p = putErr l ∧ giveL (rsErr l p) (strikeRes l p) = putRes l (ahead l p) ⟨p, 0, true⟩) := by
      have h1 : rsErr l p = putErr l := by unfold rsErr; rw [if_pos hh]
      exact ⟨h1, by rw [h1, putRes_give, strikeRes, if_neg (by rw [hh]; decide)]⟩
    by_cases hlt : ahead l p < l.length
    · obtain ⟨ad, hA, hb, c0, _, _⟩ := h.leaf hlt
      have hne : (l[ahead l p].place.toList == p.toList) = false := by
        unfold hasAt at hh
        rw [List.getElem?_eq_getElem hlt] at hh
        exact hh
      have i0 : (0 : Int) ≤ (ahead l p : Int) := by omega
      have i1 : (ahead l p : Int) < (l.length : Int) := by omega
      clear hh h
      subst hA
      generalize l[ahead l p].place = q at *
      go_enter Tryz.func69, Tryz.ntmps69
      go_wp2_with fail
      refine (HA.out _ HR.out).mono ?_
      rintro e w1 ⟨rfl, rfl⟩
      have HRA := Lib.hid (HR.out.alloc (Nat.le_refl _) (.cells #[.string p, .int .i64 0, .bool true] 115))
      go_wp2_with fail
      refine (HS.out _ (HRA.out.more (by simp))).mono ?_
      rintro e w3 ⟨V, cV, rfl, hO3, hb3⟩
      have HO3 := Lib.hid hO3
      have HB3 := Lib.hid hb3
      clear hb3 hO3
      go_wp2_with fail
      go_ret2
      rw [HW.out.2, HW.out.1]
      exact ⟨V, cV, rfl, HO3.out.mono (by simp), ((Below.refl _ _).alloc (Nat.le_refl _) _).trans (HB3.out.mono (by simp))⟩
    · have d1 : decide ((ahead l p : Int) < (l.length : Int)) = false := decide_eq_false (by omega)
      clear hh h
      go_enter Tryz.func69, Tryz.ntmps69
      go_wp2_with fail
      refine (HA.out _ HR.out).mono ?_
      rintro e w1 ⟨rfl, rfl⟩
      have HRA := Lib.hid (HR.out.alloc (Nat.le_refl _) (.cells #[.string p, .int .i64 0, .bool true] 115))
      go_wp2_with fail
      refine (HS.out _ (HRA.out.more (by simp))).mono ?_
      rintro e w3 ⟨V, cV, rfl, hO3, hb3⟩
      have HO3 := Lib.hid hO3
      have HB3 := Lib.hid hb3
      clear hb3 hO3
      go_wp2_with fail
      go_ret2
      rw [HW.out.2, HW.out.1]
      exact ⟨V, cV, rfl, HO3.out.mono (by simp), ((Below.refl _ _).alloc (Nat.le_refl _) _).trans (HB3.out.mono (by simp))⟩
  | true =>
    obtain ⟨hlt, hla, hpl⟩ := leafAt_has hh
    obtain ⟨ad, hA, hb, c0, c1, c2⟩ := h.leaf hlt
    rw [← hla] at c0 c1 c2
    rw [hpl] at c0
    have HWR : Hid (strikeRes l p = l.set (ahead l p) ⟨p, (leafAt l p).letter, true⟩) := by show _ = _; rw [strikeRes, if_pos hh]; unfold LLeaf.strike; rw [hpl]
    have HW : Hid (rsErr l p = 0) := by show _ = _; unfold rsErr; rw [if_neg (by rw [hh]; decide)]
    have HS := Lib.hid (fun W b (h : Reads W W.heap.size 3 A l.length (lcells l)) => rset_has W A c l (ahead l p) ⟨p, b, true⟩ h hfew hc hcm hlt)
    have i0 : (0 : Int) ≤ (ahead l p : Int) := by omega
    have i1 : (ahead l p : Int) < (l.length : Int) := by omega
    have b0 : (p.toList == p.toList) = true := by simp
    have hadb : (ad.add (ahead l p * 3)).block < w.heap.size := by rw [block_of_add]; exact hb
    clear hh h hla hpl
    subst hA
    generalize leafAt l p = x at *
    have d1 : ∀ o, (w.alloc o).cell? ⟨(ad.add (ahead l p * 3)).block, (ad.add (ahead l p * 3)).off + 1, none⟩ = some (.int .i64 x.letter) := fun o => (World.cell?_alloc_lt w o _ (by exact hadb)).trans c1
    go_enter Tryz.func69, Tryz.ntmps69
    go_wp2_with fail
    refine (HA.out _ HR.out).mono ?_
    rintro e w1 ⟨rfl, rfl⟩
    have HRA := Lib.hid (HR.out.alloc (Nat.le_refl _) (.cells #[.string p, .int .i64 x.letter, .bool true] 115))
    go_wp2_with fail
    refine (HS.out _ _ (HRA.out.more (by simp))).mono ?_
    rintro e w3 ⟨V, cV, rfl, hO3, hb3⟩
    have HO3 := Lib.hid hO3
    have HB3 := Lib.hid hb3
    clear hb3 hO3
    go_wp2_with fail
    go_ret2
    rw [HW.out, giveL, if_pos rfl, HWR.out]
    exact ⟨V, cV, by rw [List.length_set]; rfl, HO3.out.mono (by simp), ((Below.refl _ _).alloc (Nat.le_refl _) _).trans (HB3.out.mono (by simp))⟩
end Go.Proofs.YthfbjfocmnikaaaGreatDoor
/- The document's Dot, less, before, Mark, walked. Conditions: places that an int may count. -/
namespace Go.Proofs.YthfbjfocmnikaaaGreatDoor
open Go.RowKit
set_option linter.unusedVariables false
set_option maxRecDepth 100000 in
theorem rdot_any (w : World) (d : LDot) : Calls Tryz.prog 125 #[.agg #[.int .i64 d.who, .int .i64 d.n]] w (CheckPost w (.int .i64 (dotErr d))) := by
  obtain ⟨who, n⟩ := d
  have HB : Hid (Below w.heap.size w (w.alloc (.cells #[.int .i64 who, .int .i64 n] 27))) := (Below.refl _ _).alloc (Nat.le_refl _) _
  by_cases h : 1 ≤ who ∧ who ≤ 8 ∧ 1 ≤ n ∧ n ≤ 9999
  · have HF : Hid (dotErr ⟨who, n⟩ = 0) := if_pos h
    obtain ⟨h1, h2, h3, h4⟩ := h
    go_enter Tryz.func125, Tryz.ntmps125
    go_wp2_with fail
    go_ret
    exact ⟨by rw [HF.out]; rfl, HB.out⟩
  · have HF : Hid (dotErr ⟨who, n⟩ = 1) := if_neg h
    by_cases h1 : who < 1
    · clear h
      go_enter Tryz.func125, Tryz.ntmps125
      go_wp2_with fail
      go_ret
      exact ⟨by rw [HF.out]; rfl, HB.out⟩
    by_cases h2 : 8 < who
    · clear h
      go_enter Tryz.func125, Tryz.ntmps125
      go_wp2_with fail
      go_ret
      exact ⟨by rw [HF.out]; rfl, HB.out⟩
    by_cases h3 : n < 1
    · clear h
      go_enter Tryz.func125, Tryz.ntmps125
      go_wp2_with fail
      go_ret
      exact ⟨by rw [HF.out]; rfl, HB.out⟩
    have h4 : 9999 < n := by omega
    clear h
    go_enter Tryz.func125, Tryz.ntmps125
    go_wp2_with fail
    go_ret
    exact ⟨by rw [HF.out]; rfl, HB.out⟩
def ltDb (a b : LDot) : Bool := decide (ordD a b < 0)
theorem ltDb_iff {a b : LDot} : ltDb a b = true ↔ ltD a b := by unfold ltDb; rw [decide_eq_true_iff, ordD_lt]
set_option maxRecDepth 100000 in
theorem rless_any (w : World) (a b : LDot) : Calls Tryz.prog 179 #[.agg #[.int .i64 a.who, .int .i64 a.n], .agg #[.int .i64 b.who, .int .i64 b.n]] w (CheckPost w (.bool (ltDb a b))) := by
  obtain ⟨p, d⟩ := a
  obtain ⟨q, e⟩ := b
  have HB : Hid (Below w.heap.size w ((w.alloc (.cells #[.int .i64 p, .int .i64 d] 27)).alloc (.cells #[.int .i64 q, .int .i64 e] 27))) := ((Below.refl _ _).alloc (Nat.le_refl _) _).alloc (by simp) _
  have HI : Hid (ltDb ⟨p, d⟩ ⟨q, e⟩ = true ↔ p < q ∨ (p = q ∧ d < e)) := ltDb_iff
  by_cases h1 : p < q
  · have HF : Hid (ltDb ⟨p, d⟩ ⟨q, e⟩ = true) := HI.out.2 (.inl h1)
    have g1 : decide (p < q) = true := decide_eq_true h1
    have g2 : (p == q) = false := by rw [beq_eq_false_iff_ne]; omega
    go_enter Tryz.func179, Tryz.ntmps179
    go_wp2_with fail
    go_ret
    exact ⟨by rw [HF.out]; rfl, HB.out⟩
  · have g1 : decide (p < q) = false := decide_eq_false h1
    by_cases h2 : p = q
    · have g2 : (p == q) = true := by rw [beq_iff_eq]; exact h2
      have HF : Hid (ltDb ⟨p, d⟩ ⟨q, e⟩ = decide (d < e)) := by
        show _ = _
        rw [Bool.eq_iff_iff, HI.out, decide_eq_true_iff]; omega
      clear h2
      go_enter Tryz.func179, Tryz.ntmps179
      go_wp2_with fail
      go_ret
      exact ⟨by rw [HF.out]; rfl, HB.out⟩
    · have g2 : (p == q) = false := by rw [beq_eq_false_iff_ne]; exact h2
      have HF : Hid (ltDb ⟨p, d⟩ ⟨q, e⟩ = false) := by
        show _ = _
        rw [Bool.eq_false_iff]; intro hh; have := HI.out.1 hh; omega
      clear h2
      go_enter Tryz.func179, Tryz.ntmps179
      go_wp2_with fail
      go_ret
      exact ⟨by rw [HF.out]; rfl, HB.out⟩
set_option maxRecDepth 100000 in
set_option maxHeartbeats 1000000 in
theorem rbefore_any (w : World) (a b : LMark) : Calls Tryz.prog 132 #[.agg #[.string a.place, .int .i64 a.dot.who, .int .i64 a.dot.n], .agg #[.string b.place, .int .i64 b.dot.who, .int .i64 b.dot.n]] w (CheckPost w (.bool (ltMb a b))) := by
  obtain ⟨p, ⟨d, n⟩⟩ := a
  obtain ⟨q, ⟨e, m⟩⟩ := b
  have HL := Lib.hid (fun w => rless_any w ⟨d, n⟩ ⟨e, m⟩)
  have HB : Hid (Below w.heap.size w ((w.alloc (.cells #[.string p, .int .i64 d, .int .i64 n] 136)).alloc (.cells #[.string q, .int .i64 e, .int .i64 m] 136))) := ((Below.refl _ _).alloc (Nat.le_refl _) _).alloc (by simp) _
  have HI : Hid (ltMb ⟨p, ⟨d, n⟩⟩ ⟨q, ⟨e, m⟩⟩ = true ↔ lt p q = true ∨ (p = q ∧ ltD ⟨d, n⟩ ⟨e, m⟩)) := ltMb_iff
  by_cases hp : p = q
  · have HF : Hid (ltMb ⟨p, ⟨d, n⟩⟩ ⟨q, ⟨e, m⟩⟩ = ltDb ⟨d, n⟩ ⟨e, m⟩) := by
      show _ = _
      rw [Bool.eq_iff_iff, HI.out, ltDb_iff]
      constructor
      · rintro (h | ⟨_, h⟩)
        · rw [hp, lt_irrefl] at h; cases h
        · exact h
      · exact fun h => .inr ⟨hp, h⟩
    have g0 : (p.toList == q.toList) = true := by rw [hp]; simp
    have g1 : (p.toList != q.toList) = false := by rw [hp]; simp
    clear hp
    go_enter Tryz.func132, Tryz.ntmps132
    go_wp2_with fail
    refine (HL.out _).mono ?_
    rintro e1 w1 ⟨rfl, hb1⟩
    have HB1 := Lib.hid (HB.out.trans (hb1.mono HB.out.size))
    clear hb1
    go_wp2_with fail
    go_ret
    exact ⟨by rw [HF.out]; rfl, HB1.out⟩
  · have HF : Hid (ltMb ⟨p, ⟨d, n⟩⟩ ⟨q, ⟨e, m⟩⟩ = Op.bytesLess p.toList q.toList) := by
      show _ = _
      rw [Bool.eq_iff_iff, HI.out]
      constructor
      · rintro (h | ⟨h, _⟩)
        · exact h
        · exact absurd h hp
      · exact fun h => .inl h
    have g0 : (p.toList == q.toList) = false := by rw [beq_eq_false_iff_ne]; exact fun h => hp (tl_inj h)
    have g1 : (p.toList != q.toList) = true := by rw [bne_iff_ne]; exact fun h => hp (tl_inj h)
    clear hp
    go_enter Tryz.func132, Tryz.ntmps132
    go_wp2_with fail
    go_ret
    exact ⟨by rw [HF.out]; rfl, HB.out⟩
set_option maxRecDepth 100000 in
set_option maxHeartbeats 4000000 in
theorem rdots_any (w : World) (A : Option Addr) (c : Nat) (l : List LDot) (h : Reads w w.heap.size 2 A l.length (dcells l)) (hn : l.length ≤ 1048576) :
    Calls Tryz.prog 128 #[.slice A l.length c] w (CheckPost w (.int .i64 (riseErr l))) := by
  have HC := Lib.hid (fun w (d : LDot) => rdot_any w d)
  have HO := Lib.hid (fun w (a b : LDot) => rless_any w a b)
  have HR := Lib.hid h
  clear h
  go_enter Tryz.func128, Tryz.ntmps128
  go_wp2_with fail
  go_loopw [3] (fun i wr => RiseLoop w l i wr) (fun i _ => l.length - (intOf i).toNat)
  case atStart => exact ⟨0, by omega, rfl, Below.refl _ _, fun j hj h => by omega⟩
  case round =>
    obtain ⟨k, hk, rfl, hBel, hp⟩ := hrel
    by_cases hkn : k < l.length
    · obtain ⟨ad, rfl, hb, c0, c1⟩ := (HR.out.below hBel).dot hkn
      have hlt : (k : Int) < (l.length : Int) := by omega
      have hk0 : (0 : Int) ≤ (k : Int) := by omega
      have HBel := Lib.hid hBel
      clear hBel
      by_cases he : dotErr l[k] = 0
      · have HE := Lib.hid he
        have g0 : (dotErr l[k] != 0) = false := by simp [he]
        clear he
        go_wp2_with fail
        refine (HC.out _ l[k]).mono ?_
        rintro e w2 ⟨rfl, hb2⟩
        have HB2 := Lib.hid (HBel.out.trans (hb2.mono HBel.out.size))
        clear hb2
        go_wp2_with fail
        go_roundw
        case rel =>
          refine ⟨k + 1, by omega, by go_num, HB2.out, fun j hj h => ?_⟩
          rcases Nat.lt_or_ge j k with h1 | h1
          · exact hp.out j hj h1
          · have : j = k := by omega
            subst this
            exact HE.out
        case measure => simp [intOf]; omega
      · have HE := Lib.hid he
        have g0 : (dotErr l[k] != 0) = true := by simp [he]
        clear he
        go_wp2_with fail
        refine (HC.out _ l[k]).mono ?_
        rintro e w2 ⟨rfl, hb2⟩
        have HB2 := Lib.hid (HBel.out.trans (hb2.mono HBel.out.size))
        clear hb2
        go_wp2_with fail
        go_ret
        refine ⟨?_, HB2.out⟩
        rw [rise_bad1 hkn HE.out, dotErr_one HE.out]
        rfl
    · have hkn' : k = l.length := by omega
      have HP := Lib.hid (rise_ok1 (fun j hj => hp.out j hj (by omega)))
      have hd : decide ((k : Int) < (l.length : Int)) = false := by simp; omega
      have HBel := Lib.hid hBel
      clear hp hkn' hBel
      go_wp2_with fail
      go_loopw [5, 6] (fun i _ wr => RiseLoop2 w l i wr) (fun i _ _ => l.length - (intOf i).toNat)
      case atStart => exact ⟨0, by omega, rfl, HBel.out, fun j hj => by omega⟩
      case round =>
        obtain ⟨k, hk, rfl, hBel, hp⟩ := hrel
        by_cases hkn : k + 1 < l.length
        · obtain ⟨ad, rfl, hb, c0, c1⟩ := (HR.out.below hBel).dot (show k < l.length by omega)
          obtain ⟨ad', had, hb', d0, d1⟩ := (HR.out.below hBel).dot (show k + 1 < l.length by omega)
          injection had with had
          subst had
          have hlt : (k : Int) + 1 < (l.length : Int) := by omega
          have hbk : ∀ k, Hid ((ad.add (k * 2)).block < wr.heap.size) := fun k => by have := hBel.size; show (ad.add (k * 2)).block < wr.heap.size; rw [block_of_add]; omega
          have z0 : (0 : Int) ≤ (k : Int) := by omega
          have z1 : (k : Int) < (l.length : Int) := by omega
          have z2 : (0 : Int) ≤ (k : Int) + 1 := by omega
          have z3 : ((k : Int) + 1 - 1) = k := by omega
          have hw1 : IntKind.i64.wrap ((k : Int) + 1 - 1) = (k : Int) := by rw [IntWalk.i64_in _ (by omega)]; omega
          have hw2 : IntKind.i64.wrap (k : Int) = (k : Int) := IntWalk.i64_in _ (by omega)
          have z5 : k < l.length := by omega
          have z4 : ((k : Int) + 1).toNat = k + 1 := by omega
          have HBel := Lib.hid hBel
          have HOK := Lib.hid (fun w => HO.out w l[k] l[k + 1])
          have HZZ : Hid (ltDb l[k] l[k + 1] = decide (ordD l[k] l[k + 1] < 0)) := rfl
          clear hBel
          go_wp2_with fail
          go_region_held3 (fun w' => w'.cell? (ad.add (k * 2)) = some (.int .i64 l[k].who) ∧ w'.cell? ⟨(ad.add (k * 2)).block, (ad.add (k * 2)).off + 1, none⟩ = some (.int .i64 l[k].n) ∧ w'.cell? (ad.add ((k + 1) * 2)) = some (.int .i64 l[k + 1].who) ∧ w'.cell? ⟨(ad.add ((k + 1) * 2)).block, (ad.add ((k + 1) * 2)).off + 1, none⟩ = some (.int .i64 l[k + 1].n))
            (first
              | go_keep
              | (refine ⟨?_, ?_, ?_, ?_⟩ <;> assumption))
            ((go_at_call 179; refine (HOK.out _).mono ?_; rintro e w2 ⟨rfl, hb2'⟩; have hb2 : Below wr.heap.size wr w2 := below_of_drew hb2'; have e0 := (hb2.cell (hbk k).out).trans c0; have e1 := (hb2.cell (p := ⟨(ad.add (k * 2)).block, (ad.add (k * 2)).off + 1, none⟩) (hbk k).out).trans c1; have e2 := (hb2.cell (hbk (k + 1)).out).trans d0; have e3 := (hb2.cell (p := ⟨(ad.add ((k + 1) * 2)).block, (ad.add ((k + 1) * 2)).off + 1, none⟩) (hbk (k + 1)).out).trans d1; have HB3 := Lib.hid (HBel.out.trans (hb2.mono HBel.out.size)); clear hb2 hb2'))
          cases ho : ltDb l[k] l[k + 1] with
          | false =>
            have HZ := Lib.hid (rise_bad2 HP.out hkn (by have h := HZZ.out; rw [ho] at h; have := of_decide_eq_false h.symm; omega))
            clear ho
            go_wp2_with fail
            go_ret
            exact ⟨by rw [HZ.out]; rfl, HB3.out⟩
          | true =>
            have HZ := Lib.hid (show ordD l[k] l[k + 1] < 0 by have h := HZZ.out; rw [ho] at h; exact of_decide_eq_true h.symm)
            clear ho
            go_wp2_with fail
            go_roundw
            case rel =>
              refine ⟨k + 1, by omega, by go_num, HB3.out, fun j hj => ?_⟩
              rcases Nat.lt_or_ge j k with h1 | h1
              · exact hp.out j h1
              · have : j = k := by omega
                subst this
                rw [getD_of (show j < l.length by omega), getD_of hkn]
                have := HZ.out
                omega
            case measure => simp [intOf]; omega
        · have hkn' : l.length ≤ k + 1 := by omega
          have HZ := Lib.hid (rise_ok2 HP.out hkn' hp.out)
          have hd : decide ((k : Int) + 1 < (l.length : Int)) = false := by simp; omega
          have HBel := Lib.hid hBel
          clear hBel
          go_wp2_with fail
          go_ret
          exact ⟨by rw [HZ.out]; rfl, HBel.out⟩
end Go.Proofs.YthfbjfocmnikaaaGreatDoor
/- The document's Marks, With, Without, walked. Conditions: places that an int may count. -/
namespace Go.Proofs.YthfbjfocmnikaaaGreatDoor
open Go.RowKit
set_option linter.unusedVariables false
def withErr (l : List LMark) (m : LMark) : Int := if hasM l m = true then 0 else if 40 ≤ l.length then 4 else 0
/-- Marks and a number are given back: a row of the call's own, or the one that came. -/
def RMarksPost (w : World) (A : Option Addr) (c0 : Nat) (l0 l : List LMark) (k : Int) (e : Ending) (w' : World) : Prop :=
  ∃ V c, e = .returned (.tuple #[.slice V l.length c, .int .i64 k]) ∧ (Own w' w.heap.size 136 3 V l.length c (mcells l) ∨ (V = A ∧ c = c0 ∧ l = l0)) ∧ Below w.heap.size w w'
def WithLoop (w : World) (l : List LMark) (m : LMark) (i : Value) (wr : World) : Prop :=
  ∃ k : Nat, k ≤ l.length ∧ i = .int .i64 k ∧ Hid (Below w.heap.size w wr) ∧ Hid (∀ j (hj : j < l.length), j < k → ltM l[j] m)
def AtAhead (w : World) (l : List LMark) (m : LMark) (i : Value) (wr : World) : Prop :=
  ∃ k : Nat, k ≤ l.length ∧ i = .int .i64 k ∧ Hid (aheadM l m = k) ∧ Hid (Below w.heap.size w wr)
set_option maxRecDepth 100000 in
set_option maxHeartbeats 8000000 in
theorem rwith_any (w : World) (A : Option Addr) (c : Nat) (l : List LMark) (m : LMark) (h : Reads w w.heap.size 3 A l.length (mcells l)) (ok : MarksOk l) (hc : l.length ≤ c) (hcm : c ≤ 9223372036854775807) :
    Calls Tryz.prog 71 #[.slice A l.length c, .agg #[.string m.place, .int .i64 m.dot.who, .int .i64 m.dot.n]] w (RMarksPost w A c l (giveM (withErr l m) (cutRes l m)) (withErr l m)) := by
  obtain ⟨W0, hW0⟩ : ∃ W0, W0 = w.alloc (.cells #[.string m.place, .int .i64 m.dot.who, .int .i64 m.dot.n] 136) := ⟨_, rfl⟩
  have hfew := ok.few
  have HSZ : Hid (w.heap.size < W0.heap.size) := by show _ < _; rw [hW0]; simp
  have HBW : Hid (Below w.heap.size w W0) := by show Below _ _ _; rw [hW0]; exact (Below.refl _ _).alloc (Nat.le_refl _) _
  have HR : Hid (∀ W, Below W0.heap.size W0 W → Reads W W0.heap.size 3 A l.length (mcells l)) := fun W hb => ((h.below HBW.out).more HBW.out.size).below hb
  have HBK : Hid (∀ W, Below W0.heap.size W0 W → Blk W w.heap.size 136 #[.string m.place, .int .i64 m.dot.who, .int .i64 m.dot.n]) := fun W hb => by
    have h0 : Blk W0 w.heap.size 136 #[.string m.place, .int .i64 m.dot.who, .int .i64 m.dot.n] := by rw [hW0]; exact Blk.new w _ _
    exact h0.below hb HSZ.out
  have HO := Lib.hid (fun w (x : LMark) => rbefore_any w x m)
  have HRW : Hid (∀ W, Below w.heap.size w W → Reads W w.heap.size 3 (tailA A c (aheadM l m) 3) (l.length - aheadM l m) ((mcells l).drop (aheadM l m * 3))) := fun W hb => (h.tail (aheadM_le _ _) hc).below hb
  have HRi := Lib.hid ok.rising
  have HAH := Lib.hid (fun i hi h1 h2 => aheadM_of (l := l) (m := m) (i := i) hi h1 h2)
  obtain ⟨q, ⟨d, n⟩⟩ := m
  simp only at hW0 HBK
  clear h ok
  go_enter Tryz.func71, Tryz.ntmps71
  go_upto_block 0 with (fail)
  rw [← hW0]
  clear hW0
  go_cut [6] (fun i wx => AtAhead W0 l ⟨q, ⟨d, n⟩⟩ i wx)
  case first =>
    go_wp2_with fail
    go_loopw [6] (fun i wr => WithLoop W0 l ⟨q, ⟨d, n⟩⟩ i wr) (fun i _ => l.length - (intOf i).toNat)
    case atStart => exact ⟨0, by omega, rfl, Below.refl _ _, fun j hj h => by omega⟩
    case round =>
      obtain ⟨k, hk, rfl, HB, HN⟩ := hrel
      have hsz0 : w.heap.size < wr.heap.size := by have := HB.out.size; have := HSZ.out; omega
      have b0 : wr.cell? ⟨w.heap.size, 0, none⟩ = some (.string q) := by rw [(HBK.out _ HB.out).cell]; rfl
      have b1 : wr.cell? ⟨w.heap.size, 1, none⟩ = some (.int .i64 d) := by rw [(HBK.out _ HB.out).cell]; rfl
      have b2 : wr.cell? ⟨w.heap.size, 2, none⟩ = some (.int .i64 n) := by rw [(HBK.out _ HB.out).cell]; rfl
      have hk0 : (0 : Int) ≤ (k : Int) := by omega
      by_cases hkn : k < l.length
      · obtain ⟨ad, rfl, hb, c0, c1, c2⟩ := (HR.out _ HB.out).mark hkn
        have hlt : (k : Int) < (l.length : Int) := by omega
        have g0 : decide ((k : Int) < (l.length : Int)) = true := decide_eq_true hlt
        have HX : Hid (∀ x, x = l[k] → ltM x ⟨q, ⟨d, n⟩⟩ → ∀ j (hj : j < l.length), j < k + 1 → ltM l[j] ⟨q, ⟨d, n⟩⟩) := fun x hx hl j hj hjk => by
          rcases Nat.eq_or_lt_of_le (Nat.le_of_lt_succ hjk) with h | h
          · subst h; rw [← hx]; exact hl
          · exact HN.out j hj h
        have HA : Hid (∀ x, x = l[k] → ¬ ltM x ⟨q, ⟨d, n⟩⟩ → aheadM l ⟨q, ⟨d, n⟩⟩ = k) := fun x hx hl => HAH.out k hk HN.out (fun j hj hkj hlt => by
          rcases Nat.eq_or_lt_of_le hkj with h | h
          · subst h; rw [hx] at hl; exact hl hlt
          · rw [hx] at hl; exact hl (ltM_trans (mrising_at HRi.out k j hkn hj h) hlt))
        generalize hlk : l[k] = x at *
        have HX2 := Lib.hid (HX.out x rfl)
        have HA2 := Lib.hid (HA.out x rfl)
        clear HX HA hlk
        obtain ⟨x0, ⟨x1, x2⟩⟩ := x
        simp only at c0 c1 c2
        have HO1 := Lib.hid (fun w => HO.out w ⟨x0, ⟨x1, x2⟩⟩)
        have hbk : Hid ((ad.add (k * 3)).block < wr.heap.size) := by show (ad.add (k * 3)).block < wr.heap.size; rw [block_of_add]; have := HB.out.size; omega
        have HLT : Hid (ltMb ⟨x0, ⟨x1, x2⟩⟩ ⟨q, ⟨d, n⟩⟩ = true ↔ ltM ⟨x0, ⟨x1, x2⟩⟩ ⟨q, ⟨d, n⟩⟩) := ltMb_iff
        go_wp2_with fail
        go_region_held3 (fun w' => w'.cell? (ad.add (k * 3)) = some (.string x0) ∧ w'.cell? ⟨(ad.add (k * 3)).block, (ad.add (k * 3)).off + 1, none⟩ = some (.int .i64 x1) ∧ w'.cell? ⟨(ad.add (k * 3)).block, (ad.add (k * 3)).off + 2, none⟩ = some (.int .i64 x2) ∧ w'.cell? ⟨w.heap.size, 0, none⟩ = some (.string q) ∧ w'.cell? ⟨w.heap.size, 1, none⟩ = some (.int .i64 d) ∧ w'.cell? ⟨w.heap.size, 2, none⟩ = some (.int .i64 n))
            (first
              | go_keep
              | (refine ⟨?_, ?_, ?_, ?_, ?_, ?_⟩ <;> assumption))
            (first
              | (go_at_call 132; refine (HO1.out _).mono ?_; rintro e3 w2 ⟨rfl, hb3'⟩; have hb3 : Below wr.heap.size wr w2 := below_of_drew hb3'; have k0 := (hb3.cell hbk.out).trans c0; have k1 := (hb3.cell (p := ⟨(ad.add (k * 3)).block, (ad.add (k * 3)).off + 1, none⟩) hbk.out).trans c1; have k2 := (hb3.cell (p := ⟨(ad.add (k * 3)).block, (ad.add (k * 3)).off + 2, none⟩) hbk.out).trans c2; have k3 := (hb3.cell (p := ⟨w.heap.size, 0, none⟩) hsz0).trans b0; have k4 := (hb3.cell (p := ⟨w.heap.size, 1, none⟩) hsz0).trans b1; have k5 := (hb3.cell (p := ⟨w.heap.size, 2, none⟩) hsz0).trans b2; have HB3 := Lib.hid (HB.out.trans (hb3.mono HB.out.size)); clear hb3 hb3'))
        cases hbv : ltMb ⟨x0, ⟨x1, x2⟩⟩ ⟨q, ⟨d, n⟩⟩ with
        | true =>
          have HNN := Lib.hid (HX2.out (HLT.out.1 hbv))
          clear hbv
          go_wp2_with fail
          go_roundw
          case rel => exact ⟨k + 1, by omega, by go_num, HB3, HNN⟩
          case measure => simp [intOf]; omega
        | false =>
          have HAH2 := Lib.hid (HA2.out (fun h => by rw [HLT.out.2 h] at hbv; cases hbv))
          clear hbv c0 c1 c2 b0 b1 b2
          go_wp2_with fail
          go_meet
          case rel => exact ⟨k, hk, rfl, HAH2, HB3⟩
      · have g0 : decide ((k : Int) < (l.length : Int)) = false := by simp; omega
        have HAH2 : Hid (aheadM l ⟨q, ⟨d, n⟩⟩ = k) := HAH.out k hk HN.out (fun j hj hkj _ => by omega)
        go_wp2_with fail
        go_quiet (fail)
        go_wp2_with fail
        go_meet
        case rel => exact ⟨k, hk, rfl, HAH2, below_drewN HB.out _⟩
  case rest =>
    obtain ⟨k, hk, rfl, HAH2, HB⟩ := hcut
    have hk0 : (0 : Int) ≤ (k : Int) := by omega
    have hk1 : (k : Int) ≤ (l.length : Int) := by omega
    go_upto_region 4 with (fail)
    go_cut [33] (fun v wx => v = .bool (hasM l ⟨q, ⟨d, n⟩⟩) ∧ Hid (Below W0.heap.size W0 wx))
    case first =>
      have b0 : wc.cell? ⟨w.heap.size, 0, none⟩ = some (.string q) := by rw [(HBK.out _ HB.out).cell]; rfl
      have b1 : wc.cell? ⟨w.heap.size, 1, none⟩ = some (.int .i64 d) := by rw [(HBK.out _ HB.out).cell]; rfl
      have b2 : wc.cell? ⟨w.heap.size, 2, none⟩ = some (.int .i64 n) := by rw [(HBK.out _ HB.out).cell]; rfl
      by_cases hkn : k < l.length
      · obtain ⟨ad, rfl, hb, c0, c1, c2⟩ := (HR.out _ HB.out).mark hkn
        have hlt : (k : Int) < (l.length : Int) := by omega
        have g0 : decide ((k : Int) < (l.length : Int)) = true := decide_eq_true hlt
        have HH : Hid (hasM l ⟨q, ⟨d, n⟩⟩ = decide (l[k] = ⟨q, ⟨d, n⟩⟩)) := by
          show _ = _
          unfold hasM
          rw [HAH2.out, List.getElem?_eq_getElem hkn]
          simp only [ordM_zero]
        generalize l[k] = x at *
        obtain ⟨x0, ⟨x1, x2⟩⟩ := x
        simp only at c0 c1 c2
        have hq : ∀ W, (Op.equalIn 10000 136 (.agg #[.string x0, .int .i64 x1, .int .i64 x2]) (.agg #[.string q, .int .i64 d, .int .i64 n])).run Tryz.prog W = .ok (decide ((⟨x0, ⟨x1, x2⟩⟩ : LMark) = ⟨q, ⟨d, n⟩⟩)) W := fun W => by rw [SameMarks.eq_one, SameMarks.same_one]
        generalize decide ((⟨x0, ⟨x1, x2⟩⟩ : LMark) = ⟨q, ⟨d, n⟩⟩) = bv at *
        go_quiet (fail)
        go_wp2_with fail
        go_meet
        case rel => exact ⟨by rw [HH.out], below_drewN HB.out _⟩
      · have g0 : decide ((k : Int) < (l.length : Int)) = false := by simp; omega
        have HH : Hid (hasM l ⟨q, ⟨d, n⟩⟩ = false) := by
          show _ = _
          unfold hasM
          rw [HAH2.out, List.getElem?_eq_none (by omega)]
        go_quiet (fail)
        go_wp2_with fail
        go_meet
        case rel => exact ⟨by rw [HH.out], below_drewN HB.out _⟩
    case rest =>
      obtain ⟨rfl, HB2⟩ := hcut
      cases hh : hasM l ⟨q, ⟨d, n⟩⟩ with
      | true =>
        have HFE : Hid (withErr l ⟨q, ⟨d, n⟩⟩ = 0 ∧ cutRes l ⟨q, ⟨d, n⟩⟩ = l) := ⟨if_pos hh, if_pos hh⟩
        clear hh
        go_wp2_with fail
        go_ret2
        rw [HFE.out.1, HFE.out.2, giveM, if_pos rfl]
        exact ⟨A, c, rfl, .inr ⟨rfl, rfl, rfl⟩, HBW.out.trans (HB2.out.mono HBW.out.size)⟩
      | false =>
        have hnh : ¬ hasM l ⟨q, ⟨d, n⟩⟩ = true := by rw [hh]; decide
        by_cases hf : 40 ≤ l.length
        · have HFE : Hid (withErr l ⟨q, ⟨d, n⟩⟩ = 4) := by show _ = _; unfold withErr; rw [if_neg hnh, if_pos hf]
          clear hh hnh
          go_wp2_with fail
          go_ret2
          rw [HFE.out, giveM_bad (by decide)]
          exact ⟨none, 0, rfl, .inl (Own.nil _ _ _ _), HBW.out.trans (HB2.out.mono HBW.out.size)⟩
        have HE : Hid (withErr l ⟨q, ⟨d, n⟩⟩ = 0 ∧ cutRes l ⟨q, ⟨d, n⟩⟩ = cutPut l k ⟨q, ⟨d, n⟩⟩) := ⟨by unfold withErr; rw [if_neg hnh, if_neg hf], by unfold cutRes; rw [if_neg hnh, HAH2.out]⟩
        clear hh hnh
        have HRc := Lib.hid (HR.out _ HB2.out)
        have hbkc := HBK.out _ HB2.out
        have HBKc := Lib.hid hbkc
        have b0 : wc.cell? ⟨w.heap.size, 0, none⟩ = some (.string q) := by rw [hbkc.cell]; rfl
        have b1 : wc.cell? ⟨w.heap.size, 1, none⟩ = some (.int .i64 d) := by rw [hbkc.cell]; rfl
        have b2 : wc.cell? ⟨w.heap.size, 2, none⟩ = some (.int .i64 n) := by rw [hbkc.cell]; rfl
        have hz0 : w.heap.size + 1 ≤ wc.heap.size := hbkc.lt
        have hz1 : W0.heap.size ≤ wc.heap.size := HB2.out.size
        have hsl1 := fun W => run_nilslice InsMark.elem A l.length c k (by omega) W
        have hsl2 := fun W => run_tailAt InsMark.elem A l.length c k (by omega) W
        have hF1 : Fits (0 + k) 32 := Fits.of_small (by omega) (by decide)
        have hF2 : Fits (k + 1) 32 := Fits.of_small (by omega) (by decide)
        have hF3 : Fits (k + 1 + (l.length - k)) 32 := Fits.of_small (by omega) (by decide)
        have HT : Hid (Reads wc W0.heap.size 3 A k ((mcells l).take (k * 3))) := HRc.out.head (by omega)
        have HD : Hid (Reads wc W0.heap.size 3 (tailA A c k 3) (l.length - k) ((mcells l).drop (k * 3))) := HRc.out.tail (by omega) hc
        have h1 : OneCells ((mcells l).take (k * 3)) := fun u hu => oneCells_m l u (List.mem_of_mem_take hu)
        have h2 : OneCells ((mcells l).drop (k * 3)) := fun u hu => oneCells_m l u (List.mem_of_mem_drop hu)
        have h3 : OneCells (LMark.cells ⟨q, ⟨d, n⟩⟩) := by intro u hu; simp [LMark.cells] at hu; rcases hu with rfl | rfl | rfl <;> rfl
        have HRX := Lib.hid (fun W : World => Reads.row W 136 #[.string q, .int .i64 d, .int .i64 n])
        clear hbkc hz1
        go_upto_region 10 with (at_builtin; refine wpList_app _ (.tmp 38) (.tmp 41) rfl rfl InsMark.elem rfl rfl (Own.nil _ (w.heap.size + 1) _ 3) HT.out h1 hF1 hz0 ?_; intro V1 c1 w1 hO1 hL1 hG1)
        rw [Nat.zero_add, List.nil_append] at hO1
        have HO1 := Lib.hid hO1
        have HB3 : Hid (Below W0.heap.size W0 w1) := HB2.out.trans (hL1.below (B := W0.heap.size) HB2.out.size (by simp [ob]))
        have hbk1 := HBK.out _ HB3.out
        have HBK1 := Lib.hid hbk1
        have d0 : w1.cell? ⟨w.heap.size, 0, none⟩ = some (.string q) := by rw [hbk1.cell]; rfl
        have d1 : w1.cell? ⟨w.heap.size, 1, none⟩ = some (.int .i64 d) := by rw [hbk1.cell]; rfl
        have d2 : w1.cell? ⟨w.heap.size, 2, none⟩ = some (.int .i64 n) := by rw [hbk1.cell]; rfl
        have hz3 : w.heap.size + 1 ≤ w1.heap.size := hbk1.lt
        have HD1 := Lib.hid (HD.out.keep (w' := w1) (fun p hp => hL1.cell (by have := HB2.out.size; omega) (by simp [ob])))
        clear hO1 hL1 hG1 hbk1 b0 b1 b2
        go_upto_region 11 with (at_builtin; refine wpList_app _ (.tmp 43) (.tmp 45) rfl rfl InsMark.elem rfl rfl (HO1.out.alloc _) (HRX.out w1) h3 hF2 (by simp <;> omega) ?_; intro V2 c2 w2 hO2 hL2 hG2)
        have HO2 := Lib.hid hO2
        have HB4 : Hid (Below w.heap.size w w2) := ((HBW.out.trans (HB3.out.mono HBW.out.size)).alloc (by have := HBW.out.size; have := HB3.out.size; omega) _).trans (hL2.below (by simp <;> omega) (fun g hg => by have := (HO1.out.lt g hg).1; omega))
        have hz4 : w.heap.size + 1 ≤ w2.heap.size := by have := hL2.size; simp at this; omega
        have HD2 : Hid (Reads w2 w.heap.size 3 (tailA A c k 3) (l.length - k) ((mcells l).drop (k * 3))) := by have := HRW.out _ HB4.out; rw [HAH2.out] at this; exact this
        clear hO2 hL2 hG2 d0 d1 d2
        go_wp2_with (at_builtin; refine wpList_app _ (.tmp 47) (.tmp 50) rfl rfl InsMark.elem rfl rfl HO2.out HD2.out h2 hF3 hz4 ?_; intro V3 c3 w3 hO3 hL3 hG3)
        go_ret2
        rw [HE.out.1, HE.out.2, giveM, if_pos rfl]
        have hlen : (cutPut l k ⟨q, ⟨d, n⟩⟩).length = k + 1 + (l.length - k) := by rw [cutPut_len _ _ _ hk]; omega
        have hcl : mcells (cutPut l k ⟨q, ⟨d, n⟩⟩) = ((mcells l).take (k * 3) ++ LMark.cells ⟨q, ⟨d, n⟩⟩) ++ (mcells l).drop (k * 3) := (mcells_put l k ⟨q, ⟨d, n⟩⟩).symm
        refine ⟨V3, c3, by rw [hlen]; simp, .inl ?_, HB4.out.trans (hL3.below HB4.out.size (fun g hg => by have := (HO2.out.lt g hg).1; omega))⟩
        rw [hlen, hcl]
        have := hO3.mono (show w.heap.size ≤ w.heap.size + 1 by omega)
        exact this
end Go.Proofs.YthfbjfocmnikaaaGreatDoor
/- leafref1.Op, walked: it tells the same as op.Check. Conditions: none of our own. -/
namespace Go.Proofs.YthfbjfocmnikaaaGreatDoor
open Go.RowKit
set_option linter.unusedVariables false
set_option maxRecDepth 100000 in
set_option maxHeartbeats 4000000 in
theorem rop_any (w : World) (A : Option Addr) (c : Nat) (o : LOp) (h : Reads w w.heap.size 2 A o.seen.length (dcells o.seen)) (hp : o.place.size ≤ 9223372036854775807) :
    Calls Tryz.prog 67 #[o.val A c] w (CheckPost w (.int .i64 (opErr o))) := by
  obtain ⟨⟨who, n⟩, what, place, letter, seen⟩ := o
  have HB := Lib.hid (Blk.new w 30 (LOp.cells ⟨⟨who, n⟩, what, place, letter, seen⟩ A c))
  have HBel : Hid (Below w.heap.size w (w.alloc (.cells (LOp.cells ⟨⟨who, n⟩, what, place, letter, seen⟩ A c) 30))) := (Below.refl _ _).alloc (Nat.le_refl _) _
  have HD := Lib.hid (fun w => rdot_any w ⟨who, n⟩)
  have HP := Lib.hid (fun w => rplace_any w place hp)
  have HL := Lib.hid (fun w => rletter_any w letter)
  have HS := Lib.hid h
  clear h
  unfold LOp.val LOp.cells at *
  have c0 : (w.alloc (.cells #[.int .i64 who, .int .i64 n, .int .i64 what, .string place, .int .i64 letter, .slice A seen.length c] 30)).cell? ⟨w.heap.size, 0, none⟩ = some (.int .i64 who) := by rw [HB.out.cell]; rfl
  have c1 : (w.alloc (.cells #[.int .i64 who, .int .i64 n, .int .i64 what, .string place, .int .i64 letter, .slice A seen.length c] 30)).cell? ⟨w.heap.size, 1, none⟩ = some (.int .i64 n) := by rw [HB.out.cell]; rfl
  go_enter Tryz.func67, Tryz.ntmps67
  go_wp2_with fail
  refine (HD.out _).mono ?_
  rintro e w1 ⟨rfl, hb1⟩
  have k2 : w1.cell? ⟨w.heap.size, 2, none⟩ = some (.int .i64 what) := by rw [(HB.out.below hb1 (by simp)).cell]; rfl
  have k3 : w1.cell? ⟨w.heap.size, 3, none⟩ = some (.string place) := by rw [(HB.out.below hb1 (by simp)).cell]; rfl
  have k4 : w1.cell? ⟨w.heap.size, 4, none⟩ = some (.int .i64 letter) := by rw [(HB.out.below hb1 (by simp)).cell]; rfl
  have k5 : w1.cell? ⟨w.heap.size, 5, none⟩ = some (.slice A seen.length c) := by rw [(HB.out.below hb1 (by simp)).cell]; rfl
  have hb01 : Hid (Below w.heap.size w w1) := HBel.out.trans (hb1.mono (by simp))
  clear hb1 c0 c1
  by_cases hd : dotErr ⟨who, n⟩ = 0
  · have HDE := Lib.hid hd
    rw [hd]
    clear hd
    by_cases h1 : what < 1
    · have HZ : Hid (opErr ⟨⟨who, n⟩, what, place, letter, seen⟩ = 1) := by
        show opErr _ = 1
        unfold opErr
        rw [if_neg (fun h => h HDE.out), if_pos (by show ¬ (1 ≤ what ∧ what ≤ 4); omega)]
      go_wp2_with fail
      go_ret
      exact ⟨by rw [HZ.out]; rfl, hb01.out⟩
    · by_cases h2 : 4 < what
      · have h2' : what > 4 := h2
        have HZ : Hid (opErr ⟨⟨who, n⟩, what, place, letter, seen⟩ = 1) := by
          show opErr _ = 1
          unfold opErr
          rw [if_neg (fun h => h HDE.out), if_pos (by show ¬ (1 ≤ what ∧ what ≤ 4); omega)]
        go_wp2_with fail
        go_ret
        exact ⟨by rw [HZ.out]; rfl, hb01.out⟩
      · have HW : Hid (¬ ¬ (1 ≤ what ∧ what ≤ 4)) := by show ¬ ¬ (1 ≤ what ∧ what ≤ 4); omega
        go_wp2_with fail
        refine (HP.out _).mono ?_
        rintro e w2 ⟨rfl, hw⟩
        obtain rfl := hw.symm
        clear hw
        by_cases hpl : placeErr place = 0
        · have HPL := Lib.hid hpl
          rw [hpl]
          clear hpl
          have HRISE : Hid (seen.length ≤ 1048576 → Calls Tryz.prog 128 #[.slice A seen.length c] w1 (CheckPost w1 (.int .i64 (riseErr seen)))) := fun hn => rdots_any w1 A c seen ((HS.out.below hb01.out).more hb01.out.size) hn
          go_wp2_with fail
          refine (HL.out _).mono ?_
          rintro e w3 ⟨rfl, hw⟩
          obtain rfl := hw.symm
          clear hw
          by_cases h3 : what = 1
          · subst h3
            cases hlb : letterB letter with
            | false =>
              have HZ : Hid (opErr ⟨⟨who, n⟩, 1, place, letter, seen⟩ = 1) := by
                show opErr _ = _
                have e1 := HDE.out
                have e2 := HPL.out
                unfold opErr
                simp [e1, e2, hlb]
              go_wp2_with fail
              go_ret
              exact ⟨by rw [HZ.out]; rfl, hb01.out⟩
            | true =>
              by_cases h4 : 0 < seen.length
              · have HZ : Hid (opErr ⟨⟨who, n⟩, 1, place, letter, seen⟩ = 3) := by
                  show opErr _ = _
                  have e1 := HDE.out
                  have e2 := HPL.out
                  unfold opErr
                  simp [e1, e2, hlb, h4]
                have hd4 : decide (0 < seen.length) = true := by simpa using h4
                go_wp2_with fail
                go_ret
                exact ⟨by rw [HZ.out]; rfl, hb01.out⟩
              · have HZ : Hid (opErr ⟨⟨who, n⟩, 1, place, letter, seen⟩ = riseErr seen) := by
                  show opErr _ = _
                  have e1 := HDE.out
                  have e2 := HPL.out
                  unfold opErr
                  rw [if_neg (by simp [e1]), if_neg (by simp), if_neg (by simp [e2]), if_neg (by simp [hlb]), if_neg (by simp), if_neg (by intro h; exact h4 h.2), if_neg (by show ¬ 40 < seen.length; omega)]
                have hd4 : decide (0 < seen.length) = false := by simpa using h4
                have hd5 : decide (40 < seen.length) = false := by simp; omega
                go_wp2_with fail
                refine (HRISE.out (by omega)).mono ?_
                rintro e w4 ⟨rfl, hb3⟩
                rw [← HZ.out]
                go_wp2_with fail
                go_ret
                exact ⟨rfl, hb01.out.trans (hb3.mono (hb01.out.size))⟩
          · have hw1 : (what == 1) = false := by simpa using h3
            have hw2 : (what != 1) = true := by simpa using h3
            by_cases h5 : letter = 0
            · subst h5
              by_cases h6 : what = 4
              · subst h6
                by_cases h7 : 40 < seen.length
                · have HZ : Hid (opErr ⟨⟨who, n⟩, 4, place, 0, seen⟩ = 4) := by
                    show opErr _ = _
                    have e1 := HDE.out
                    have e2 := HPL.out
                    unfold opErr
                    simp [e1, e2, h7]
                  have hd5 : decide (40 < seen.length) = true := by simpa using h7
                  go_wp2_with fail
                  go_ret
                  exact ⟨by rw [HZ.out]; rfl, hb01.out⟩
                · have HZ : Hid (opErr ⟨⟨who, n⟩, 4, place, 0, seen⟩ = riseErr seen) := by
                    show opErr _ = _
                    have e1 := HDE.out
                    have e2 := HPL.out
                    unfold opErr
                    rw [if_neg (by simp [e1]), if_neg (by simp), if_neg (by simp [e2]), if_neg (by simp), if_neg (by simp), if_neg (by simp), if_neg h7]
                  have hd5 : decide (40 < seen.length) = false := by simp; omega
                  go_wp2_with fail
                  refine (HRISE.out (by omega)).mono ?_
                  rintro e w4 ⟨rfl, hb3⟩
                  rw [← HZ.out]
                  go_wp2_with fail
                  go_ret
                  exact ⟨rfl, hb01.out.trans (hb3.mono (hb01.out.size))⟩
              · have hw4 : (what != 4) = true := by simpa using h6
                by_cases h4 : 0 < seen.length
                · have HZ : Hid (opErr ⟨⟨who, n⟩, what, place, 0, seen⟩ = 3) := by
                    show opErr _ = _
                    unfold opErr
                    rw [if_neg (fun h => h HDE.out), if_neg HW.out, if_neg (fun h => h HPL.out), if_neg (by intro h; exact h3 h.1), if_neg (by intro h; exact h.2 rfl), if_pos ⟨h6, h4⟩]
                  have hd4 : decide (0 < seen.length) = true := by simpa using h4
                  go_wp2_with fail
                  go_ret
                  exact ⟨by rw [HZ.out]; rfl, hb01.out⟩
                · have HZ : Hid (opErr ⟨⟨who, n⟩, what, place, 0, seen⟩ = riseErr seen) := by
                    show opErr _ = _
                    unfold opErr
                    rw [if_neg (fun h => h HDE.out), if_neg HW.out, if_neg (fun h => h HPL.out), if_neg (by intro h; exact h3 h.1), if_neg (by intro h; exact h.2 rfl), if_neg (by intro h; exact h4 h.2), if_neg (by show ¬ 40 < seen.length; omega)]
                  have hd4 : decide (0 < seen.length) = false := by simpa using h4
                  have hd5 : decide (40 < seen.length) = false := by simp; omega
                  go_wp2_with fail
                  refine (HRISE.out (by omega)).mono ?_
                  rintro e w4 ⟨rfl, hb3⟩
                  rw [← HZ.out]
                  go_wp2_with fail
                  go_ret
                  exact ⟨rfl, hb01.out.trans (hb3.mono (hb01.out.size))⟩
            · have hl0 : (letter != 0) = true := by simpa using h5
              have HZ : Hid (opErr ⟨⟨who, n⟩, what, place, letter, seen⟩ = 3) := by
                show opErr _ = _
                unfold opErr
                rw [if_neg (fun h => h HDE.out), if_neg HW.out, if_neg (fun h => h HPL.out), if_neg (by intro h; exact h3 h.1), if_pos ⟨h3, h5⟩]
              go_wp2_with fail
              go_ret
              exact ⟨by rw [HZ.out]; rfl, hb01.out⟩
        · have HZ : Hid (opErr ⟨⟨who, n⟩, what, place, letter, seen⟩ = placeErr place) := by
            show opErr _ = _
            unfold opErr
            rw [if_neg (fun h => h HDE.out), if_neg HW.out, if_pos hpl]
          have q1 : (placeErr place == 0) = false := by simpa using hpl
          have q2 : (placeErr place != 0) = true := by simpa using hpl
          generalize placeErr place = k at *
          go_wp2_with fail
          go_ret
          exact ⟨by rw [HZ.out]; rfl, hb01.out⟩
  · have HZ : Hid (opErr ⟨⟨who, n⟩, what, place, letter, seen⟩ = dotErr ⟨who, n⟩) := by
      show opErr _ = _
      unfold opErr
      rw [if_pos hd]
    have q1 : (dotErr ⟨who, n⟩ == 0) = false := by simpa using hd
    have q2 : (dotErr ⟨who, n⟩ != 0) = true := by simpa using hd
    generalize dotErr ⟨who, n⟩ = k at *
    go_wp2_with fail
    go_ret
    exact ⟨by rw [HZ.out]; rfl, hb01.out⟩
end Go.Proofs.YthfbjfocmnikaaaGreatDoor
/- The document's Without, walked. Conditions: few marks, few dots. -/
namespace Go.Proofs.YthfbjfocmnikaaaGreatDoor
open Go.RowKit
set_option linter.unusedVariables false
theorem joinRes_len (l : List LMark) (p : ByteArray) (seen : List LDot) : (joinRes l p seen).length ≤ l.length := List.length_filter_le _ _
theorem joinRes_take {l : List LMark} {p : ByteArray} {seen : List LDot} {k : Nat} (h : k < l.length) : joinRes (l.take (k + 1)) p seen = joinRes (l.take k) p seen ++ (if joined p seen l[k] = true then [] else [l[k]]) := by
  unfold joinRes
  rw [List.take_succ_eq_append_getElem h, List.filter_append]
  congr 1
  cases hj : joined p seen l[k] <;> simp [hj]
def WithoutLoop (w : World) (l : List LMark) (p : ByteArray) (seen : List LDot) (v i : Value) (wr : World) : Prop :=
  ∃ (k cv : Nat) (V : Option Addr), k ≤ l.length ∧ i = .int .i64 k ∧ v = .slice V (joinRes (l.take k) p seen).length cv ∧ Hid (Own wr w.heap.size 136 3 V (joinRes (l.take k) p seen).length cv (mcells (joinRes (l.take k) p seen))) ∧ Hid (Below w.heap.size w wr)
/-- Marks are given back; they are of the call's own. -/
def OwnMarks (w : World) (l : List LMark) (e : Ending) (w' : World) : Prop :=
  ∃ V c, e = .returned (.slice V l.length c) ∧ Own w' w.heap.size 136 3 V l.length c (mcells l) ∧ Below w.heap.size w w'
theorem mcells_append (a b : List LMark) : mcells a ++ mcells b = mcells (a ++ b) := by simp [mcells]
set_option maxRecDepth 100000 in
set_option maxHeartbeats 4000000 in
theorem rwithout_any (w : World) (A : Option Addr) (c : Nat) (l : List LMark) (p : ByteArray) (A2 : Option Addr) (c2 : Nat) (seen : List LDot) (h : Reads w w.heap.size 3 A l.length (mcells l)) (hn : l.length ≤ 1000)
    (h2 : Reads w w.heap.size 2 A2 seen.length (dcells seen)) (hn2 : seen.length ≤ 1000) :
    Calls Tryz.prog 72 #[.slice A l.length c, .string p, .slice A2 seen.length c2] w (OwnMarks w (joinRes l p seen)) := by
  have HR : Hid (∀ W, Below w.heap.size w W → Reads W w.heap.size 3 A l.length (mcells l)) := fun W hb => h.below hb
  have HI := Lib.hid (fun W (hb : Below w.heap.size w W) d => rin_any W A2 c2 seen d ((h2.below hb).more hb.size) hn2)
  clear h h2
  go_enter Tryz.func72, Tryz.ntmps72
  go_wp2_with fail
  go_loopw [7, 8, 9] (fun v i _ wr => WithoutLoop w l p seen v i wr) (fun _ i _ _ => l.length - (intOf i).toNat)
  case atStart => exact ⟨0, 0, none, by omega, rfl, rfl, Own.nil _ _ _ _, Below.refl _ _⟩
  case round =>
    obtain ⟨k, cv, V, hk, rfl, rfl, HO, HB⟩ := hrel
    by_cases hkn : k < l.length
    · obtain ⟨ad, rfl, hb, c0, c1, c2⟩ := (HR.out _ HB.out).mark hkn
      have hlt : (k : Int) < (l.length : Int) := by omega
      have hk0 : (0 : Int) ≤ (k : Int) := by omega
      have hle := joinRes_len (l.take k) p seen
      rw [List.length_take] at hle
      have hle2 : (joinRes (l.take k) p seen).length ≤ k := by omega
      have HTK := Lib.hid (joinRes_take (l := l) (p := p) (seen := seen) hkn)
      have HCE : Hid (∀ W, Below w.heap.size w W → W.cell? (ad.add (k * 3)) = some (.string l[k].place) ∧ W.cell? ⟨(ad.add (k * 3)).block, (ad.add (k * 3)).off + 1, none⟩ = some (.int .i64 l[k].dot.who) ∧ W.cell? ⟨(ad.add (k * 3)).block, (ad.add (k * 3)).off + 2, none⟩ = some (.int .i64 l[k].dot.n)) := fun W hb => by
        obtain ⟨ad2, e, _, e0, e1, e2⟩ := (HR.out _ hb).mark hkn
        injection e with e
        subst e
        exact ⟨e0, e1, e2⟩
      have hszb : w.heap.size ≤ wr.heap.size := HB.out.size
      clear hle
      generalize l[k] = x at c0 c1 c2 HTK HCE
      generalize joinRes (l.take k) p seen = T at HTK hle2 HO ⊢
      obtain ⟨q, ⟨d, n⟩⟩ := x
      simp only at c0 c1 c2 HCE
      have HJ : Hid (joined p seen ⟨q, ⟨d, n⟩⟩ = (decide (q = p) && inD seen ⟨d, n⟩)) := rfl
      have HIN := Lib.hid (HI.out _ HB.out ⟨d, n⟩)
      generalize inD seen ⟨d, n⟩ = bv at HJ HIN
      go_wp2_with fail
      refine HIN.out.mono ?_
      rintro e w1 ⟨rfl, hb1⟩
      have HB1 := Lib.hid (HB.out.trans (hb1.mono HB.out.size))
      have HO1 := Lib.hid (HO.out.below hb1)
      have hz1 : w.heap.size ≤ w1.heap.size := HB1.out.size
      obtain ⟨e0, e1, e2⟩ := HCE.out _ HB1.out
      clear hb1 c0 c1 c2 HCE
      by_cases hj : joined p seen ⟨q, ⟨d, n⟩⟩ = true
      · have HT : Hid (joinRes (l.take (k + 1)) p seen = T) := by show _ = _; rw [HTK.out, if_pos hj, List.append_nil]
        rw [HJ.out, Bool.and_eq_true, decide_eq_true_eq] at hj
        obtain ⟨hp, hbv⟩ := hj
        have g0 : (q.toList == p.toList) = true := by rw [hp]; simp
        have g1 : (q.toList != p.toList) = false := by rw [hp]; simp
        subst hbv
        clear hp HTK HJ
        go_wp2_with fail
        go_roundw
        case rel =>
          refine ⟨k + 1, cv, V, by omega, by go_num, by rw [HT.out], Lib.hid ?_, HB1⟩
          rw [HT.out]
          exact HO1.out
        case measure => simp [intOf]; omega
      · have HT : Hid (joinRes (l.take (k + 1)) p seen = T ++ [⟨q, ⟨d, n⟩⟩]) := by show _ = _; rw [HTK.out, if_neg hj]
        have hF : Fits (T.length + 1) 32 := Fits.of_small (by omega) (by decide)
        have HRX := Lib.hid (Reads.row w1 136 #[.string q, .int .i64 d, .int .i64 n])
        rw [HJ.out] at hj
        clear HTK HJ
        by_cases hp : q = p
        · have hbv : bv = false := by
            cases bv
            · rfl
            · exact absurd (by simp [hp]) hj
          have g0 : (q.toList == p.toList) = true := by rw [hp]; simp
          have g1 : (q.toList != p.toList) = false := by rw [hp]; simp
          subst hbv
          clear hp hj
          go_wp2_with (at_builtin; go_loud (refine wpList_app _ (.tmp 34) (.tmp 39) rfl rfl InsMark.elem rfl rfl (HO1.out.alloc _) HRX.out (oneCells_m [⟨q, ⟨d, n⟩⟩]) hF (by simp; omega) ?_; intro V2 cv2 w2 HO2 HL2 HX2; have HOn := Lib.hid HO2; have HBn : Hid (Below w.heap.size w w2) := (HB1.out.alloc HB1.out.size _).trans (HL2.below (by simp; omega) (fun g hg => (HO1.out.lt g hg).1)); clear HO2 HL2 HX2))
          go_roundw
          case rel =>
            refine ⟨k + 1, cv2, V2, by omega, by go_num, by rw [HT.out, List.length_append]; rfl, Lib.hid ?_, HBn⟩
            rw [HT.out, List.length_append, ← mcells_append]
            exact HOn.out
          case measure => simp [intOf]; omega
        · have g0 : (q.toList == p.toList) = false := by rw [beq_eq_false_iff_ne]; exact fun h => hp (tl_inj h)
          have g1 : (q.toList != p.toList) = true := by rw [bne_iff_ne]; exact fun h => hp (tl_inj h)
          clear hp hj
          go_wp2_with (at_builtin; go_loud (refine wpList_app _ (.tmp 34) (.tmp 39) rfl rfl InsMark.elem rfl rfl (HO1.out.alloc _) HRX.out (oneCells_m [⟨q, ⟨d, n⟩⟩]) hF (by simp; omega) ?_; intro V2 cv2 w2 HO2 HL2 HX2; have HOn := Lib.hid HO2; have HBn : Hid (Below w.heap.size w w2) := (HB1.out.alloc HB1.out.size _).trans (HL2.below (by simp; omega) (fun g hg => (HO1.out.lt g hg).1)); clear HO2 HL2 HX2))
          go_roundw
          case rel =>
            refine ⟨k + 1, cv2, V2, by omega, by go_num, by rw [HT.out, List.length_append]; rfl, Lib.hid ?_, HBn⟩
            rw [HT.out, List.length_append, ← mcells_append]
            exact HOn.out
          case measure => simp [intOf]; omega
    · have hd : decide ((k : Int) < (l.length : Int)) = false := by simp; omega
      have HT : Hid (l.take k = l) := List.take_of_length_le (by omega)
      rw [HT.out] at HO ⊢
      go_wp2_with fail
      go_ret
      exact ⟨V, cv, rfl, HO.out, HB.out⟩
end Go.Proofs.YthfbjfocmnikaaaGreatDoor
/- (*leafref2.Doc).Apply, walked: it does what the program's does. Conditions: the document is right, and says what was done. -/
namespace Go.Proofs.YthfbjfocmnikaaaGreatDoor
open Go.RowKit
set_option linter.unusedVariables false
theorem gone_saw {st : LDoc} (hs : Says st.ops st) (o : LOp) : st.gone o = st.ops.any (sawOp o.place o.dot) := by
  unfold LDoc.gone
  rw [Bool.eq_iff_iff, hs.joined, List.any_eq_true]
  constructor
  · rintro ⟨x, hx, h1, h2, h3⟩
    exact ⟨x, hx, by unfold sawOp; simp [h1, h2, inD_iff, h3]⟩
  · rintro ⟨x, hx, h1⟩
    unfold sawOp at h1
    simp only [Bool.and_eq_true, decide_eq_true_eq, inD_iff] at h1
    exact ⟨x, hx, h1.1, h1.2.1, h1.2.2⟩
theorem has_iff {st : LDoc} (ok : st.Ok) {o : LOp} (h : opErr o = 0) : hasRes st.known o.dot = decide (o.dot.n ≤ nOf st.known o.dot) := by
  unfold hasRes
  rw [LDoc.vd_zero ok h]
  simp
theorem gap_six {st : LDoc} (ok : st.Ok) {o : LOp} (h : opErr o = 0) (h2 : ¬ o.dot.n ≤ nOf st.known o.dot) (h3 : nOf st.known o.dot < o.dot.n - 1) : addErr st.known o.dot = 6 := by
  unfold addErr
  rw [if_neg (by rw [LDoc.vd_zero ok h]; decide), if_neg h2, if_pos h3]
theorem gap_none' {st : LDoc} (ok : st.Ok) {o : LOp} (h : opErr o = 0) (h2 : ¬ o.dot.n ≤ nOf st.known o.dot) (h3 : ¬ nOf st.known o.dot < o.dot.n - 1) : addErr st.known o.dot = 0 := by
  unfold addErr
  rw [if_neg (by rw [LDoc.vd_zero ok h]; decide), if_neg h2, if_neg h3]
def RApplyPost (w : World) (B : Nat) (S : List Nat) (b : Nat) (D : RLay) (is : Bool) (k : Int) (st : LDoc) (e : Ending) (w' : World) : Prop := e = .returned (.tuple #[.bool is, .int .i64 k]) ∧ RDocTo w B S b D st w'
def RTurned (w : World) (B : Nat) (S : List Nat) (b : Nat) (st : LDoc) (D : RLay) (o : LOp) (W0 : World) (v8 v9 v6 : Value) (wx : World) : Prop :=
  ∃ (V1 : Option Addr) (d1 : Nat) (l1 : List LLeaf) (V2 : Option Addr) (d2 : Nat) (l2 : List LMark) (S' : List Nat), v8 = .slice V1 l1.length d1 ∧ v9 = .slice V2 l2.length d2 ∧ v6 = .int .i64 (st.turnE o) ∧ Hid (RTurn w B S b st D o V1 d1 l1 V2 d2 l2 S' wx) ∧ Hid (Below W0.heap.size W0 wx)
section
variable (w : World) (B : Nat) (S : List Nat) (b : Nat) (st : LDoc) (D : RLay) (h : RDocIs w B S b st D) (ok : st.Ok) (hs : Says st.ops st)
include h ok hs
set_option maxRecDepth 100000 in
set_option maxHeartbeats 8000000 in
theorem rapply_doc (o : LOp) (A : Option Addr) (c : Nat) (hp : o.place.size ≤ 9223372036854775807) (hr : Seat w B S (D.turns b) 2 A o.seen.length (dcells o.seen)) :
    Calls Tryz.prog 20 #[.pointer (some ⟨b, 0, none⟩), o.val A c] w (RApplyPost w B S b D (st.applyB o) (st.applyE o) (st.apply o)) := by
  obtain ⟨W0, hW0⟩ : ∃ W0, W0 = w.alloc (.cells (o.cells A c) 30) := ⟨_, rfl⟩
  have HB0 : Hid (Below w.heap.size w W0) := by rw [hW0]; exact (Below.refl _ _).alloc (Nat.le_refl _) _
  have HX : Hid (Blk W0 w.heap.size 30 (o.cells A c)) := by rw [hW0]; exact Blk.new w 30 _
  have HSZ : Hid (W0.heap.size = w.heap.size + 1) := by rw [hW0]; exact World.size_alloc _ _
  have HD := Lib.hid h
  have HR := Lib.hid hr
  have HBT : Hid (∀ W, Below W0.heap.size W0 W → Below w.heap.size w W) := fun W hb => HB0.out.trans (hb.mono HB0.out.size)
  have HOP := Lib.hid (fun W (hb : Below w.heap.size w W) => rop_any W A c o ((hr.row.below hb).more hb.size) hp)
  have HCEL : Hid (∀ W, Below W0.heap.size W0 W → (W.cell? ⟨b, 0, none⟩ = some (.slice D.a1 st.book.length D.c1) ∧ W.cell? ⟨b, 1, none⟩ = some (.slice D.a2 st.marks.length D.c2) ∧ W.cell? ⟨b, 2, none⟩ = some (.slice D.a3 st.known.length D.c3) ∧ W.cell? ⟨b, 3, none⟩ = some (.slice D.a4 st.ops.length D.c4)) ∧
      (W.cell? ⟨w.heap.size, 0, none⟩ = some (.int .i64 o.dot.who) ∧ W.cell? ⟨w.heap.size, 1, none⟩ = some (.int .i64 o.dot.n) ∧ W.cell? ⟨w.heap.size, 2, none⟩ = some (.int .i64 o.what) ∧ W.cell? ⟨w.heap.size, 3, none⟩ = some (.string o.place) ∧ W.cell? ⟨w.heap.size, 4, none⟩ = some (.int .i64 o.letter) ∧ W.cell? ⟨w.heap.size, 5, none⟩ = some (.slice A o.seen.length c))) := fun W hb => by
    have h1 := (h.below (HBT.out W hb)).blk
    have h2 := HX.out.below hb (by have := HSZ.out; omega)
    exact ⟨⟨by rw [h1.cell]; rfl, by rw [h1.cell]; rfl, by rw [h1.cell]; rfl, by rw [h1.cell]; rfl⟩, by rw [h2.cell]; rfl, by rw [h2.cell]; rfl, by rw [h2.cell]; rfl, by rw [h2.cell]; rfl, by rw [h2.cell]; rfl, by rw [h2.cell]; rfl⟩
  have HBR : Hid (Below W0.heap.size W0 W0) := Below.refl _ _
  have hBb : B ≤ b ∧ b < w.heap.size := h.own b (h.sub b (by simp [RLay.turns]))
  have HOK := Lib.hid ok
  have HSY := Lib.hid hs
  have hfew := ok.few
  have hk8 := (vec_ok ok.known).1
  clear h hr ok hs
  by_cases h1 : opErr o = 0
  · obtain ⟨o1, o2, o3, o4, o5, o6, o7, o8⟩ := op_ok h1
    obtain ⟨k, hk, hw, n1, n2⟩ := dot_in o1
    have O6 := Lib.hid o6
    have O5 := Lib.hid o5
    have O7 := Lib.hid o7
    have O8 := Lib.hid o8
    clear o4 o5 o6 o7 o8
    have hkl : k < st.known.length := by omega
    have HNO : Hid (nOf st.known o.dot = st.known[k]) := by
      show _ = _
      have := nOf_at (n := o.dot.n) hkl
      rw [← this]
      unfold nOf
      simp only
      rw [hw]
    obtain ⟨g3, hg3, _, _⟩ := HD.out.known.head (by omega)
    have HK3 : Hid (∀ W, Below W0.heap.size W0 W → W.cell? ⟨g3, k, none⟩ = some (.int .i64 st.known[k])) := fun W hb => by
      have h2 := (HD.out.below (HBT.out W hb)).known
      rw [hg3] at h2
      rw [h2.cellAt (by omega), ints_at hkl]
    have HE1 := Lib.hid h1
    have HG3 := Lib.hid hg3
    rw [h1] at HOP
    have hkn := (vec_ok HOK.out.known).2 _ (List.getElem_mem hkl)
    have HHAS := Lib.hid (has_iff HOK.out h1)
    have HSIX := Lib.hid (gap_six HOK.out h1)
    have HGAP := Lib.hid (gap_none' HOK.out h1)
    rw [hg3] at HCEL
    generalize hN : st.known[k] = N at *
    have HNN := Lib.hid hN
    clear hN
    have HK8 := Lib.hid hk8
    clear hk8
    obtain ⟨⟨who, n⟩, what, p, letter, seen⟩ := o
    unfold LOp.val at *
    unfold LOp.cells at hW0 HX
    simp only at *
    subst hw
    obtain ⟨⟨c0, c1, c2, c3⟩, j0, j1, j2, j3, j4, j5⟩ := HCEL.out _ HBR.out
    go_enter Tryz.func20, Tryz.ntmps20
    go_wp2_with fail
    rw [← hW0]
    clear hW0
    refine (HOP.out _ HB0.out).mono ?_
    rintro e w1 ⟨rfl, hb1⟩
    have HB1 := Lib.hid hb1
    clear hb1 c0 c1 c2 c3 j0 j1 j2 j3 j4 j5
    obtain ⟨⟨c0, c1, c2, c3⟩, j0, j1, j2, j3, j4, j5⟩ := HCEL.out _ HB1.out
    have e0 := HK3.out _ HB1.out
    have k0 : (0 : Int) ≤ (k : Int) := by omega
    have k1 : (k : Int) < (st.known.length : Int) := by omega
    have q1 : IntKind.i64.wrap ((k : Int) + 1 - 1) = (k : Int) := by rw [IntWalk.i64_in _ (by omega)]; omega
    go_wp2_with fail
    go_quiet (fail)
    have HB2 : Hid (Below W0.heap.size W0 (w1.drewN nq)) := below_drewN HB1.out nq
    generalize w1.drewN nq = w2 at *
    clear c0 c1 c2 c3 j0 j1 j2 j3 j4 j5 e0
    obtain ⟨⟨c0, c1, c2, c3⟩, j0, j1, j2, j3, j4, j5⟩ := HCEL.out _ HB2.out
    have q2 : IntKind.i64.wrap (n - 1) = n - 1 := IntWalk.i64_in _ (by omega)
    by_cases h2 : N ≥ n
    · obtain ⟨a1, a2, a3⟩ := LDoc.apply_has HOK.out HE1.out (by rw [HHAS.out, HNO.out]; simp; omega)
      have HA := Lib.hid (And.intro a1 (And.intro a2 a3))
      clear a1 a2 a3
      go_wp2_with fail
      go_ret2
      exact ⟨by rw [HA.out.1, HA.out.2.1]; rfl, by rw [HA.out.2.2]; exact HD.out.to_self (HBT.out _ HB2.out)⟩
    · by_cases h3 : N < n - 1
      · obtain ⟨a1, a2, a3⟩ := LDoc.apply_bad2 HOK.out HE1.out (by rw [HHAS.out, HNO.out]; simp; omega) (by rw [HSIX.out (by rw [HNO.out]; omega) (by rw [HNO.out]; omega)]; decide)
        rw [HSIX.out (by rw [HNO.out]; omega) (by rw [HNO.out]; omega)] at a1
        have HA := Lib.hid (And.intro a1 (And.intro a2 a3))
        clear a1 a2 a3
        go_wp2_with fail
        go_ret2
        exact ⟨by rw [HA.out.1, HA.out.2.1]; rfl, by rw [HA.out.2.2]; exact HD.out.to_self (HBT.out _ HB2.out)⟩
      · by_cases h4 : 400 ≤ st.ops.length
        · obtain ⟨a1, a2, a3⟩ := LDoc.apply_full HOK.out HE1.out (by rw [HHAS.out, HNO.out]; simp; omega) (HGAP.out (by rw [HNO.out]; omega) (by rw [HNO.out]; omega)) h4
          have HA := Lib.hid (And.intro a1 (And.intro a2 a3))
          have l4 : (st.ops.length : Int) ≥ 400 := by omega
          clear a1 a2 a3
          go_wp2_with fail
          go_ret2
          exact ⟨by rw [HA.out.1, HA.out.2.1]; rfl, by rw [HA.out.2.2]; exact HD.out.to_self (HBT.out _ HB2.out)⟩
        · have l4 : ¬ (st.ops.length : Int) ≥ 400 := by omega
          have l5 : decide ((st.ops.length : Int) ≥ 400) = false := decide_eq_false l4
          go_upto_block 0 with (fail)
          go_cut [8, 9, 6] (fun v8 v9 v6 wx => RTurned w B S b st D ⟨⟨(k : Int) + 1, n⟩, what, p, letter, seen⟩ W0 v8 v9 v6 wx)
          case first => as_aux_lemma =>
            have HBOOK := Lib.hid (fun W (hb : Below W0.heap.size W0 W) => (HD.out.below (HBT.out W hb)).book.row)
            have HMARK := Lib.hid (fun W (hb : Below W0.heap.size W0 W) => (HD.out.below (HBT.out W hb)).marks.row)
            have HSIZE := Lib.hid (fun W (hb : Below W0.heap.size W0 W) => (HBT.out W hb).size)
            have HBS : Hid (B ≤ w.heap.size) := by show _ ≤ _; omega
            by_cases w1' : what = 1
            · subst w1'
              have HWR := Lib.hid (fun W (hb : Below W0.heap.size W0 W) => rwrite_any W D.a1 D.c1 st.book p letter (HBOOK.out W hb) HOK.out.book HD.out.bookc.1 HD.out.bookc.2)
              have hrdy : bookReady st.book p = 0 := by unfold bookReady; rw [if_neg (fun x => x (bookErr_zero HOK.out.book)), o3]
              have HTE : Hid (st.turnE ⟨⟨(k : Int) + 1, n⟩, 1, p, letter, seen⟩ = rwErr st.book p letter) := by
                show _ = _
                unfold LDoc.turnE
                rw [if_pos rfl, writeErr_ready hrdy]
              have HTU : Hid (rwErr st.book p letter = 0 → (st.turn ⟨⟨(k : Int) + 1, n⟩, 1, p, letter, seen⟩).book = giveL (rwErr st.book p letter) (writeRes st.book p letter) ∧ (st.turn ⟨⟨(k : Int) + 1, n⟩, 1, p, letter, seen⟩).marks = st.marks) := fun hz => by
                unfold LDoc.turn
                rw [if_pos rfl, if_pos (by show writeErr st.book p letter = 0; rw [writeErr_ready hrdy]; exact hz)]
                exact ⟨by unfold giveL; rw [if_pos hz], rfl⟩
              clear hrdy
              go_wp2_with fail
              go_region_held3 (fun w' => w'.cell? ⟨b, 0, none⟩ = some (.slice D.a1 st.book.length D.c1) ∧ w'.cell? ⟨w.heap.size, 3, none⟩ = some (.string p) ∧ w'.cell? ⟨w.heap.size, 4, none⟩ = some (.int .i64 letter))
                (first | go_keep | (refine ⟨?_, ?_, ?_⟩ <;> assumption))
                ((go_at_call 68; refine (HWR.out _ (by first | exact HB2.out | exact below_drewN HB2.out _ | exact HB2.out.drew)).mono ?_; rintro e w3 ⟨V, cV, rfl, hO, hb3⟩
                  have HB3 : Hid (Below W0.heap.size W0 w3) := HB2.out.trans (Below.mono (by first | exact hb3 | exact below_of_drewN (n := 1) hb3) HB2.out.size)
                  have HO3 := Lib.hid (hO.mono (show w.heap.size ≤ _ from (HBT.out _ HB2.out).size))
                  clear c0 c1 c2 c3 j0 j1 j2 j3 j4 j5
                  obtain ⟨⟨c0, c1, c2, c3⟩, j0, j1, j2, j3, j4, j5⟩ := HCEL.out _ HB3.out
                  clear hb3 hO))
              go_wp2_with fail
              go_meet
              case rel => exact ⟨_, _, _, _, _, _, _, rfl, rfl, by rw [HTE.out], RTurn.book_ HD.out (HBT.out _ HB3.out) HO3.out HBS.out (fun hz => by
                obtain ⟨t1, t2⟩ := HTU.out (by rw [← HTE.out]; exact hz)
                exact ⟨t1.symm, t2.symm⟩), HB3⟩
            · have n1' : (what == 1) = false := by simpa using w1'
              by_cases w2' : what = 2
              · subst w2'
                have HWR := Lib.hid (fun W (hb : Below W0.heap.size W0 W) => rstrike_any W D.a1 D.c1 st.book p (HBOOK.out W hb) HOK.out.book HD.out.bookc.1 HD.out.bookc.2)
                have hrdy : bookReady st.book p = 0 := by unfold bookReady; rw [if_neg (fun x => x (bookErr_zero HOK.out.book)), o3]
                have HTE : Hid (st.turnE ⟨⟨(k : Int) + 1, n⟩, 2, p, letter, seen⟩ = rsErr st.book p) := by
                  show _ = _
                  unfold LDoc.turnE
                  rw [if_neg (by simp), if_pos rfl, strikeErr_ready hrdy]
                have HTU : Hid (rsErr st.book p = 0 → (st.turn ⟨⟨(k : Int) + 1, n⟩, 2, p, letter, seen⟩).book = giveL (rsErr st.book p) (strikeRes st.book p) ∧ (st.turn ⟨⟨(k : Int) + 1, n⟩, 2, p, letter, seen⟩).marks = st.marks) := fun hz => by
                  unfold LDoc.turn
                  rw [if_neg (by simp), if_pos rfl, if_pos (by show strikeErr st.book p = 0; rw [strikeErr_ready hrdy]; exact hz)]
                  exact ⟨by unfold giveL; rw [if_pos hz], rfl⟩
                clear hrdy
                go_wp2_with fail
                go_region_held3 (fun w' => w'.cell? ⟨b, 0, none⟩ = some (.slice D.a1 st.book.length D.c1) ∧ w'.cell? ⟨w.heap.size, 3, none⟩ = some (.string p))
                  (first | go_keep | (refine ⟨?_, ?_⟩ <;> assumption))
                  ((go_at_call 69; refine (HWR.out _ (by first | exact HB2.out | exact below_drewN HB2.out _ | exact HB2.out.drew)).mono ?_; rintro e w3 ⟨V, cV, rfl, hO, hb3⟩
                    have HB3 : Hid (Below W0.heap.size W0 w3) := HB2.out.trans (Below.mono (by first | exact hb3 | exact below_of_drewN (n := 1) hb3) HB2.out.size)
                    have HO3 := Lib.hid (hO.mono (show w.heap.size ≤ _ from (HBT.out _ HB2.out).size))
                    clear c0 c1 c2 c3 j0 j1 j2 j3 j4 j5
                    obtain ⟨⟨c0, c1, c2, c3⟩, j0, j1, j2, j3, j4, j5⟩ := HCEL.out _ HB3.out
                    clear hb3 hO))
                go_wp2_with fail
                go_meet
                case rel => exact ⟨_, _, _, _, _, _, _, rfl, rfl, by rw [HTE.out], RTurn.book_ HD.out (HBT.out _ HB3.out) HO3.out HBS.out (fun hz => by
                  obtain ⟨t1, t2⟩ := HTU.out (by rw [← HTE.out]; exact hz)
                  exact ⟨t1.symm, t2.symm⟩), HB3⟩
              · have n2' : (what == 2) = false := by simpa using w2'
                by_cases w3' : what = 3
                · subst w3'
                  have HSE := Lib.hid (fun W (hb : Below W0.heap.size W0 W) => rseen_doc W B S b st D (HD.out.below (HBT.out W hb)) HOK.out p ⟨(k : Int) + 1, n⟩)
                  have hgs := gone_saw HSY.out ⟨⟨(k : Int) + 1, n⟩, 3, p, letter, seen⟩
                  simp only at hgs
                  rw [← hgs] at HSE
                  cases hgo : st.gone ⟨⟨(k : Int) + 1, n⟩, 3, p, letter, seen⟩ with
                  | true =>
                    rw [hgo] at HSE
                    have HTE : Hid (st.turnE ⟨⟨(k : Int) + 1, n⟩, 3, p, letter, seen⟩ = 0) := by
                      show _ = _
                      unfold LDoc.turnE
                      rw [if_neg (by simp), if_neg (by simp), if_pos rfl]
                      unfold LDoc.cutE
                      rw [if_pos hgo]
                    have HTU : Hid (st.turn ⟨⟨(k : Int) + 1, n⟩, 3, p, letter, seen⟩ = st) := by
                      show _ = _
                      unfold LDoc.turn
                      rw [if_neg (by simp), if_neg (by simp), if_pos rfl]
                      unfold LDoc.cut
                      rw [if_pos hgo]
                    clear hgs hgo
                    go_wp2_with fail
                    refine (HSE.out _ HB2.out).mono ?_
                    rintro e w3 ⟨rfl, hb3⟩
                    have HB3 : Hid (Below W0.heap.size W0 w3) := HB2.out.trans (hb3.mono HB2.out.size)
                    clear hb3
                    go_wp2_with fail
                    go_meet
                    case rel => exact ⟨_, _, _, _, _, _, _, rfl, rfl, by rw [HTE.out], RTurn.stays HD.out (HBT.out _ HB3.out) (fun _ => by rw [HTU.out]; exact ⟨rfl, rfl⟩), HB3⟩
                  | false =>
                    rw [hgo] at HSE
                    have hmk : markErr (⟨p, ⟨(k : Int) + 1, n⟩⟩ : LMark) = 0 := by unfold markErr; simp only; rw [if_neg (by rw [o3]; decide)]; exact o1
                    have hce : cutErr st.marks ⟨p, ⟨(k : Int) + 1, n⟩⟩ = withErr st.marks ⟨p, ⟨(k : Int) + 1, n⟩⟩ := by
                      unfold cutErr withErr
                      rw [if_neg (fun x => x (marks_zero HOK.out.marks)), if_neg (by rw [hmk]; decide)]
                    have HWI := Lib.hid (fun W (hb : Below W0.heap.size W0 W) => rwith_any W D.a2 D.c2 st.marks ⟨p, ⟨(k : Int) + 1, n⟩⟩ (HMARK.out W hb) HOK.out.marks HD.out.marksc.1 HD.out.marksc.2)
                    have HTE : Hid (st.turnE ⟨⟨(k : Int) + 1, n⟩, 3, p, letter, seen⟩ = withErr st.marks ⟨p, ⟨(k : Int) + 1, n⟩⟩) := by
                      show _ = _
                      unfold LDoc.turnE
                      rw [if_neg (by simp), if_neg (by simp), if_pos rfl]
                      unfold LDoc.cutE
                      rw [if_neg (by rw [hgo]; decide), ← hce]
                    have HTU : Hid (withErr st.marks ⟨p, ⟨(k : Int) + 1, n⟩⟩ = 0 → (st.turn ⟨⟨(k : Int) + 1, n⟩, 3, p, letter, seen⟩).book = st.book ∧ (st.turn ⟨⟨(k : Int) + 1, n⟩, 3, p, letter, seen⟩).marks = giveM (withErr st.marks ⟨p, ⟨(k : Int) + 1, n⟩⟩) (cutRes st.marks ⟨p, ⟨(k : Int) + 1, n⟩⟩)) := fun hz => by
                      unfold LDoc.turn
                      rw [if_neg (by simp), if_neg (by simp), if_pos rfl]
                      unfold LDoc.cut
                      rw [if_neg (by rw [hgo]; decide), if_pos (by show cutErr st.marks ⟨p, ⟨(k : Int) + 1, n⟩⟩ = 0; rw [hce]; exact hz)]
                      exact ⟨rfl, by unfold giveM; rw [if_pos hz]⟩
                    clear hgs hgo hce hmk
                    go_wp2_with fail
                    refine (HSE.out _ HB2.out).mono ?_
                    rintro e w3 ⟨rfl, hb3⟩
                    have HB3 : Hid (Below W0.heap.size W0 w3) := HB2.out.trans (hb3.mono HB2.out.size)
                    clear hb3 c0 c1 c2 c3 j0 j1 j2 j3 j4 j5
                    obtain ⟨⟨c0, c1, c2, c3⟩, j0, j1, j2, j3, j4, j5⟩ := HCEL.out _ HB3.out
                    go_wp2_with fail
                    go_region_held3 (fun w' => w'.cell? ⟨b, 1, none⟩ = some (.slice D.a2 st.marks.length D.c2) ∧ w'.cell? ⟨w.heap.size, 0, none⟩ = some (.int .i64 ((k : Int) + 1)) ∧ w'.cell? ⟨w.heap.size, 1, none⟩ = some (.int .i64 n) ∧ w'.cell? ⟨w.heap.size, 3, none⟩ = some (.string p))
                      (first | go_keep | (refine ⟨?_, ?_, ?_, ?_⟩ <;> assumption))
                      ((go_at_call 71; refine (HWI.out _ (by first | exact HB3.out | exact below_drewN HB3.out _ | exact HB3.out.drew)).mono ?_; rintro e w4 ⟨V, cV, rfl, hO, hb4⟩
                        have HB4 : Hid (Below W0.heap.size W0 w4) := HB3.out.trans (Below.mono (by first | exact hb4 | exact below_of_drewN (n := 1) hb4) HB3.out.size)
                        have HO4 := Lib.hid (hO.imp (fun hO => hO.mono (show w.heap.size ≤ _ from (HBT.out _ HB3.out).size)) id)
                        clear c0 c1 c2 c3 j0 j1 j2 j3 j4 j5
                        obtain ⟨⟨c0, c1, c2, c3⟩, j0, j1, j2, j3, j4, j5⟩ := HCEL.out _ HB4.out
                        clear hb4 hO))
                    go_wp2_with fail
                    go_meet
                    case rel =>
                      rcases HO4.out with h5 | ⟨e1, e2, e3⟩
                      · exact ⟨_, _, _, _, _, _, _, rfl, rfl, by rw [HTE.out], RTurn.marks_ HD.out (HBT.out _ HB4.out) h5 HBS.out (fun hz => by
                          obtain ⟨t1, t2⟩ := HTU.out (by rw [← HTE.out]; exact hz)
                          exact ⟨t1.symm, t2.symm⟩), HB4⟩
                      · subst e1 e2
                        exact ⟨_, _, _, _, _, _, _, rfl, by rw [e3], by rw [HTE.out], RTurn.stays HD.out (HBT.out _ HB4.out) (fun hz => by
                          obtain ⟨t1, t2⟩ := HTU.out (by rw [← HTE.out]; exact hz)
                          exact ⟨t1.symm, by rw [t2, e3]⟩), HB4⟩
                · have n3' : (what == 3) = false := by simpa using w3'
                  obtain rfl : what = 4 := by omega
                  have HWO := Lib.hid (fun W (hb : Below W0.heap.size W0 W) => rwithout_any W D.a2 D.c2 st.marks p A c seen (HMARK.out W hb) (by have := HOK.out.marks.few; omega) (HR.out.row.below (HBT.out W hb) |>.more (HBT.out W hb).size) (by have := O7.out; omega))
                  have hje : st.joinE ⟨⟨(k : Int) + 1, n⟩, 4, p, letter, seen⟩ = 0 := by
                    unfold LDoc.joinE joinErr
                    simp only
                    rw [if_neg (fun x => x (marks_zero HOK.out.marks)), if_neg (by rw [o3]; decide), if_neg (by have := O7.out; omega)]
                    exact O8.out
                  have HTE : Hid (st.turnE ⟨⟨(k : Int) + 1, n⟩, 4, p, letter, seen⟩ = 0) := by
                    show _ = _
                    unfold LDoc.turnE
                    rw [if_neg (by simp), if_neg (by simp), if_neg (by simp), if_pos rfl, hje]
                  have HTU : Hid ((st.turn ⟨⟨(k : Int) + 1, n⟩, 4, p, letter, seen⟩).book = st.book ∧ (st.turn ⟨⟨(k : Int) + 1, n⟩, 4, p, letter, seen⟩).marks = joinRes st.marks p seen) := by
                    unfold LDoc.turn
                    rw [if_neg (by simp), if_neg (by simp), if_neg (by simp), if_pos rfl]
                    unfold LDoc.join
                    rw [if_pos hje]
                    exact ⟨rfl, rfl⟩
                  clear hje
                  go_wp2_with fail
                  go_region_held3 (fun w' => w'.cell? ⟨b, 1, none⟩ = some (.slice D.a2 st.marks.length D.c2) ∧ w'.cell? ⟨w.heap.size, 3, none⟩ = some (.string p) ∧ w'.cell? ⟨w.heap.size, 5, none⟩ = some (.slice A seen.length c))
                    (first | go_keep | (refine ⟨?_, ?_, ?_⟩ <;> assumption))
                    ((go_at_call 72; refine (HWO.out _ (by first | exact HB2.out | exact below_drewN HB2.out _ | exact HB2.out.drew)).mono ?_; rintro e w3 ⟨V, cV, rfl, hO, hb3⟩
                      have HB3 : Hid (Below W0.heap.size W0 w3) := HB2.out.trans (Below.mono (by first | exact hb3 | exact below_of_drewN (n := 1) hb3) HB2.out.size)
                      have HO3 := Lib.hid (hO.mono (show w.heap.size ≤ _ from (HBT.out _ HB2.out).size))
                      clear c0 c1 c2 c3 j0 j1 j2 j3 j4 j5
                      obtain ⟨⟨c0, c1, c2, c3⟩, j0, j1, j2, j3, j4, j5⟩ := HCEL.out _ HB3.out
                      clear hb3 hO))
                  go_wp2_with fail
                  go_meet
                  case rel => exact ⟨_, _, _, _, _, _, _, rfl, rfl, by rw [HTE.out], RTurn.marks_ HD.out (HBT.out _ HB3.out) HO3.out HBS.out (fun _ => ⟨HTU.out.1.symm, HTU.out.2.symm⟩), HB3⟩
          case rest =>
            obtain ⟨V1, d1, l1, V2, d2, l2, S', rfl, rfl, rfl, HT, HBC⟩ := hcut
            obtain ⟨w4, hw4⟩ : ∃ x : World, x = wc := ⟨_, rfl⟩
            subst hw4
            clear c0 c1 c2 c3 j0 j1 j2 j3 j4 j5
            obtain ⟨⟨c0, c1, c2, c3⟩, j0, j1, j2, j3, j4, j5⟩ := HCEL.out _ HBC.out
            by_cases hz : st.turnE ⟨⟨(k : Int) + 1, n⟩, what, p, letter, seen⟩ = 0
            · obtain ⟨a1, a2, a3⟩ := LDoc.apply_good HOK.out HE1.out (by rw [HHAS.out, HNO.out]; simp; omega) (HGAP.out (by rw [HNO.out]; omega) (by rw [HNO.out]; omega)) (by omega) hz
              have HA := Lib.hid (And.intro a1 (And.intro a2 a3))
              have HZ := Lib.hid hz
              rw [hz]
              clear a1 a2 a3 hz
              have hd5 := (HD.out.below (HBT.out _ HBC.out)).setBook HT.out.sub HT.out.own HT.out.book HT.out.bookc
              have ho5 : Only [b] w4 (w4.setCell ⟨b, 0, none⟩ (.slice V1 l1.length d1)) := (Only.refl _ _).setCell (.inl (by simp)) _
              have hm5 := HT.out.marks.turned ho5 (by simp [RLay.turns])
              have hd6 := hd5.setMarks (S' := S') (fun g hg => hg) hd5.own hm5 HT.out.marksc
              have ho6 : Only (D.turns b) w ((w4.setCell ⟨b, 0, none⟩ (.slice V1 l1.length d1)).setCell ⟨b, 1, none⟩ (.slice V2 l2.length d2)) := ((Only.of_below (HBT.out _ HBC.out)).setCell (.inl (by simp [RLay.turns])) _).setCell (.inl (by simp [RLay.turns])) _
              have hbb : b ≠ w.heap.size := by omega
              have HX4 := HX.out.below HBC.out (by have := HSZ.out; omega)
              have HX6 : Hid (Blk ((w4.setCell ⟨b, 0, none⟩ (.slice V1 l1.length d1)).setCell ⟨b, 1, none⟩ (.slice V2 l2.length d2)) w.heap.size 30 _) := (HX4.far (p := ⟨b, 0, none⟩) (Ne.symm hbb) _).far (p := ⟨b, 1, none⟩) (Ne.symm hbb) _
              have fr0 := ((HD.out.below (HBT.out _ HBC.out)).blk).frozen 0
              have fr1 := hd5.blk.frozen 1
              have HD6 := Lib.hid hd6
              have HO6 := Lib.hid ho6
              clear hd5 ho5 hm5 hd6 ho6 HX4 q1 q2
              go_wp2_with fail
              obtain ⟨w6, hw6⟩ : ∃ x, x = (w4.setCell ⟨b, 0, none⟩ (.slice V1 l1.length d1)).setCell ⟨b, 1, none⟩ (.slice V2 l2.length d2) := ⟨_, rfl⟩
              rw [← hw6] at HX6 HD6 HO6
              rw [← hw6]
              clear hw6 c0 c1 c2 c3 j0 j1 j2 j3 j4 j5 fr0 fr1 HBC HOP HCEL
              have HTN := Lib.hid HT.out.new_
              have HTS := Lib.hid HT.out.sub
              have HTK := Lib.hid HT.out.ok
              clear HT
              have HG6 : Hid (({ { D with a1 := V1, c1 := d1 } with a2 := V2, c2 := d2 } : RLay).a3 = some ⟨g3, 0, none⟩) := HG3.out
              obtain ⟨csk, hcsk⟩ := HD6.out.a3_blk HG6.out
              have hgb : g3 ≠ b := fun e => HD6.out.b3 (by show b ∈ ob D.a3; rw [HG3.out]; simp [ob, e])
              have hgx : g3 ≠ w.heap.size := by
                have := (HD6.out.own g3 (HD6.out.sub g3 (by show g3 ∈ b :: (ob D.a3 ++ ob D.a4); rw [HG3.out]; simp [ob]))).2
                have h2 := (HD.out.known.lt g3 (by rw [HG3.out]; simp [ob])).2
                omega
              have c2 : w6.cell? ⟨b, 2, none⟩ = some (.slice (some ⟨g3, 0, none⟩) st.known.length D.c3) := by rw [HD6.out.blk.cell, ← HG3.out]; rfl
              have j0 : w6.cell? ⟨w.heap.size, 0, none⟩ = some (.int .i64 ((k : Int) + 1)) := by rw [HX6.out.cell]; rfl
              have j1 : w6.cell? ⟨w.heap.size, 1, none⟩ = some (.int .i64 n) := by rw [HX6.out.cell]; rfl
              have e0 : w6.cell? ⟨g3, k, none⟩ = some (.int .i64 N) := by
                have h2 := HD6.out.known
                rw [HG6.out] at h2
                rw [h2.cellAt (by show k < st.known.length * 1; omega), ints_at hkl, HNN.out]
              have fk : w6.frozen? ⟨g3, k, none⟩ = false := hcsk.frozen k
              have HD7 := Lib.hid (HD6.out.setKnown (k := k) HG6.out hkl n)
              have HO7 : Hid (Only (D.turns b) w (w6.setCell ⟨g3, k, none⟩ (.int .i64 n))) := HO6.out.setCell (.inl (by show g3 ∈ b :: (ob D.a3 ++ ob D.a4); rw [HG3.out]; simp [ob])) _
              have HX7 : Hid (Blk (w6.setCell ⟨g3, k, none⟩ (.int .i64 n)) w.heap.size 30 _) := HX6.out.far (p := ⟨g3, k, none⟩) (Ne.symm hgx) _
              have s0 := far_drew2 (p := ⟨g3, k, none⟩) (u := .int .i64 n) c2 hgb
              have s1 := far_drew2 (p := ⟨g3, k, none⟩) (u := .int .i64 n) j0 hgx
              have s2 := far_drew2 (p := ⟨g3, k, none⟩) (u := .int .i64 n) j1 hgx
              clear hcsk
              have q1 : IntKind.i64.wrap ((k : Int) + 1 - 1) = (k : Int) := by rw [IntWalk.i64_in _ (by omega)]; omega
              have q4 : (k : Int).toNat = k := by omega
              have q5 : IntKind.i64.wrap (k : Int) = (k : Int) := IntWalk.i64_in _ (by omega)
              have k0 : (0 : Int) ≤ (k : Int) := by omega
              have k1 : (k : Int) < (st.known.length : Int) := by omega
              have k2 : (0 : Int) ≤ (k : Int) ∧ (k : Int) < (st.known.length : Int) := ⟨k0, k1⟩
              go_region_held3 (fun w' => w'.cell? ⟨b, 2, none⟩ = some (.slice (some ⟨g3, 0, none⟩) st.known.length D.c3) ∧ w'.cell? ⟨w.heap.size, 0, none⟩ = some (.int .i64 ((k : Int) + 1)) ∧ w'.cell? ⟨w.heap.size, 1, none⟩ = some (.int .i64 n))
                (first | go_keep | (refine ⟨?_, ?_, ?_⟩ <;> assumption))
                (fail)
              obtain ⟨w7, hw7⟩ : ∃ x, x = (w6.setCell ⟨g3, k, none⟩ (.int .i64 n)).drew := ⟨_, rfl⟩
              have hd7 : RDocIs (w6.setCell ⟨g3, k, none⟩ (.int .i64 n)).drew B S' b { ({ ({ st with book := l1 } : LDoc) with marks := l2 } : LDoc) with known := st.known.set k n } ({ ({ D with a1 := V1, c1 := d1 } : RLay) with a2 := V2, c2 := d2 } : RLay) := HD7.out.drewN 1
              rw [← hw7] at hd7
              have HD7' := Lib.hid hd7
              have HO7' : Hid (Only (D.turns b) w w7) := by rw [hw7]; exact HO7.out.drew
              have HX7' : Hid (Blk w7 w.heap.size 30 #[.int .i64 ((k : Int) + 1), .int .i64 n, .int .i64 what, .string p, .int .i64 letter, .slice A seen.length c]) := by rw [hw7]; exact HX7.out.drew
              rw [← hw7]
              clear hw7 hd7 HD7 HO7 HX7 s0 s1 s2 c2 j0 j1 e0 fk
              have j0 : w7.cell? ⟨w.heap.size, 0, none⟩ = some (.int .i64 ((k : Int) + 1)) := by rw [HX7'.out.cell]; rfl
              have j1 : w7.cell? ⟨w.heap.size, 1, none⟩ = some (.int .i64 n) := by rw [HX7'.out.cell]; rfl
              have j2 : w7.cell? ⟨w.heap.size, 2, none⟩ = some (.int .i64 what) := by rw [HX7'.out.cell]; rfl
              have j3 : w7.cell? ⟨w.heap.size, 3, none⟩ = some (.string p) := by rw [HX7'.out.cell]; rfl
              have j4 : w7.cell? ⟨w.heap.size, 4, none⟩ = some (.int .i64 letter) := by rw [HX7'.out.cell]; rfl
              have j5 : w7.cell? ⟨w.heap.size, 5, none⟩ = some (.slice A seen.length c) := by rw [HX7'.out.cell]; rfl
              have k3 : w7.cell? ⟨b, 3, none⟩ = some (.slice D.a4 st.ops.length D.c4) := by rw [HD7'.out.blk.cell]; rfl
              have k3a : (w7.alloc (.cells #[.int .i64 ((k : Int) + 1), .int .i64 n, .int .i64 what, .string p, .int .i64 letter, .slice A seen.length c] 30)).cell? ⟨b, 3, none⟩ = some (.slice D.a4 st.ops.length D.c4) := by rw [(HD7'.out.blk.alloc _).cell]; rfl
              have hB7 : B ≤ w7.heap.size := by have := HO7'.out.size; omega
              have HONE : Hid (OneCells [Value.int .i64 ((k : Int) + 1), .int .i64 n, .int .i64 what, .string p, .int .i64 letter, .slice A seen.length c]) := by
                show OneCells _
                intro u hu
                simp only [List.mem_cons, List.not_mem_nil, or_false] at hu
                rcases hu with rfl | rfl | rfl | rfl | rfl | rfl <;> rfl
              have HFIT : Hid (Fits (st.ops.length + 1) 72) := Fits.of_small (by omega) (by decide)
              have hb4 : b ∉ ob D.a4 := HD7'.out.b4
              go_wp2_with fail
              go_region_law ((
                refine step_app _ (.tmp 140) (.tmp 142) rfl rfl elemO_ rfl rfl ((HD7'.out.ops.drew).alloc _) (Reads.row w7.drew 30 #[.int .i64 ((k : Int) + 1), .int .i64 n, .int .i64 what, .string p, .int .i64 letter, .slice A seen.length c]) HONE.out HFIT.out (by simp; omega) ?_
                intro V cV w8 hO hL hg
                have hb8 := hL.blk ((HD7'.out.blk.drew).alloc _) hb4
                have n3 : w8.cell? ⟨b, 3, none⟩ = some (.slice D.a4 st.ops.length D.c4) := by { rw [hb8.cell]; rfl }
                have m3 := hb8.frozen 3))
              all_goals
                go_wp2_with fail
                go_ret2
                exact ⟨by rw [HA.out.1, HA.out.2.1]; rfl, by
                  have hfin := rapply_close (o := ⟨⟨(k : Int) + 1, n⟩, what, p, letter, seen⟩) HD.out HO7'.out (by rfl) (by exact ⟨rfl, rfl⟩) HD7'.out HTN.out HR.out HTS.out hO hL hg
                  obtain ⟨S9, D9, f1, f2, f3⟩ := hfin
                  refine ⟨S9, D9, f1.congr ?_ ?_ ?_ ?_, f2, f3⟩
                  · rw [HA.out.2.2]; exact (HTK.out HZ.out).1.symm
                  · rw [HA.out.2.2]; exact (HTK.out HZ.out).2.symm
                  · rw [HA.out.2.2]; show addRes _ _ = _; unfold addRes; simp only; congr 1; omega
                  · rw [HA.out.2.2, (LDoc.turn_rest st _).2]⟩
            · obtain ⟨a1, a2, a3⟩ := LDoc.apply_bad3 HOK.out HE1.out (by rw [HHAS.out, HNO.out]; simp; omega) (HGAP.out (by rw [HNO.out]; omega) (by rw [HNO.out]; omega)) (by omega) hz
              have HA := Lib.hid (And.intro a1 (And.intro a2 a3))
              have q3 : (st.turnE ⟨⟨(k : Int) + 1, n⟩, what, p, letter, seen⟩ != 0) = true := by simpa using hz
              clear a1 a2 a3 hz
              generalize st.turnE ⟨⟨(k : Int) + 1, n⟩, what, p, letter, seen⟩ = te at *
              go_wp2_with fail
              go_ret2
              exact ⟨by rw [HA.out.1, HA.out.2.1]; rfl, by rw [HA.out.2.2]; exact HD.out.to_self (HBT.out _ HBC.out)⟩
  · obtain ⟨a1, a2, a3⟩ := LDoc.apply_bad1 (d := st) h1
    have HA := Lib.hid (And.intro a1 (And.intro a2 a3))
    have q2 : (opErr o != 0) = true := by simpa using h1
    clear a1 a2 a3
    obtain ⟨⟨who, n⟩, what, p, letter, seen⟩ := o
    unfold LOp.val at *
    unfold LOp.cells at hW0 HX
    simp only at *
    obtain ⟨⟨c0, c1, c2, c3⟩, j0, j1, j2, j3, j4, j5⟩ := HCEL.out _ HBR.out
    generalize opErr _ = ke at *
    go_enter Tryz.func20, Tryz.ntmps20
    go_wp2_with fail
    rw [← hW0]
    clear hW0
    refine (HOP.out _ HB0.out).mono ?_
    rintro e w1 ⟨rfl, hb1⟩
    have HB1 := Lib.hid hb1
    clear hb1
    go_wp2_with fail
    go_ret2
    exact ⟨by rw [HA.out.1, HA.out.2.1]; rfl, by rw [HA.out.2.2]; exact HD.out.to_self (HBT.out _ HB1.out)⟩
end
end Go.Proofs.YthfbjfocmnikaaaGreatDoor

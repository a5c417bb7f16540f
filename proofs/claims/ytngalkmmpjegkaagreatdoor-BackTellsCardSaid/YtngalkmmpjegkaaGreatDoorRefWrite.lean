/- 2 texts in one: each says ahead of itself what is proved, and its conditions. -/
import Derived.Test.YtngalkmmpjegkaaGreatDoorBookWrite
import Derived.Test.YtngalkmmpjegkaaGreatDoorRefText
import Derived.Test.YtngalkmmpjegkaaGreatDoorSame0
/- The document's set, walked. Conditions: a book that is not too long. -/
namespace Go.Proofs.YtngalkmmpjegkaaGreatDoor
open Go.RowKit
set_option linter.unusedVariables false
/-- A book and a number are given back; the book is of the call's own. -/
def RLeafsPost (w : World) (l : List LLeaf) (k : Int) (e : Ending) (w' : World) : Prop :=
  ∃ V c, e = .returned (.tuple #[.slice V l.length c, .int .i64 k]) ∧ Own w' w.heap.size 112 3 V l.length c (lcells l) ∧ Below w.heap.size w w'
theorem rleafs_none {w w' : World} {k : Int} (hb : Below w.heap.size w w') : RLeafsPost w [] k (.returned (.tuple #[.slice none 0 0, .int .i64 k])) w' := ⟨none, 0, rfl, Own.nil _ _ _ _, hb⟩
set_option maxRecDepth 100000 in
set_option maxHeartbeats 4000000 in
theorem rset_has (w : World) (A : Option Addr) (c : Nat) (l : List LLeaf) (i : Nat) (x : LLeaf) (h : Reads w w.heap.size 3 A l.length (lcells l)) (hn : l.length ≤ 300) (hc : l.length ≤ c) (hcm : c ≤ 9223372036854775807) (hi : i < l.length) :
    Calls Tryz.prog 92 #[.slice A l.length c, .int .i64 i, .bool true, .agg #[.string x.place, .int .i64 x.letter, .bool x.struck]] w (RLeafsPost w (l.set i x) 0) := by
  obtain ⟨p, n, s⟩ := x
  have HB0 : Hid (Below w.heap.size w (w.alloc (.cells #[.string p, .int .i64 n, .bool s] 112))) := (Below.refl _ _).alloc (Nat.le_refl _) _
  have HBK := Lib.hid (Blk.new w 112 #[.string p, .int .i64 n, .bool s])
  have HR := Lib.hid h
  have hsl1 := fun W => run_nilslice InsLeaf.elem A l.length c i (by omega) W
  have hsl2 := fun W => run_tailAt InsLeaf.elem A l.length c (i + 1) (by omega) W
  have hsl2' : ∀ W, (Instr.sliceAt 49 (.slice A l.length c) (some (.int .i64 ((i : Int) + 1))) none none).run Tryz.prog W = .ok (.slice (tailA A c (i + 1) 3) (l.length - (i + 1)) (c - (i + 1))) W := hsl2
  clear hsl2
  have hF1 : Fits (0 + i) 32 := Fits.of_small (by omega) (by decide)
  have hF2 : Fits (i + 1) 32 := Fits.of_small (by omega) (by decide)
  have hF3 : Fits (i + 1 + (l.length - (i + 1))) 32 := Fits.of_small (by omega) (by decide)
  have HT : Hid (Reads w w.heap.size 3 A i ((lcells l).take (i * 3))) := h.head (by omega)
  have HD : Hid (Reads w w.heap.size 3 (tailA A c (i + 1) 3) (l.length - (i + 1)) ((lcells l).drop ((i + 1) * 3))) := h.tail (by omega) hc
  have h1 : OneCells ((lcells l).take (i * 3)) := fun u hu => oneCells_l l u (List.mem_of_mem_take hu)
  have h2 : OneCells ((lcells l).drop ((i + 1) * 3)) := fun u hu => oneCells_l l u (List.mem_of_mem_drop hu)
  have h3 : OneCells (LLeaf.cells ⟨p, n, s⟩) := by intro u hu; simp [LLeaf.cells] at hu; rcases hu with rfl | rfl | rfl <;> rfl
  have q1 : IntKind.i64.wrap ((i : Int) + 1) = (i : Int) + 1 := IntWalk.i64_in _ (by omega)
  have hi0 : (i : Int) < (l.length : Int) := by omega
  clear h
  go_enter Tryz.func92, Tryz.ntmps92
  go_upto_region 5 with (at_builtin; refine wpList_app _ (.tmp 18) (.tmp 21) rfl rfl InsLeaf.elem rfl rfl (Own.nil _ (w.heap.size + 1) _ 3) (HT.out.below HB0.out) h1 hF1 (by simp) ?_; intro V1 c1 w1 hO1 hL1 hG1)
  rw [Nat.zero_add, List.nil_append] at hO1
  have HO1 := Lib.hid hO1
  have HB1 : Hid (Below w.heap.size w w1) := HB0.out.trans (hL1.below (B := w.heap.size) (by simp) (by simp [ob]))
  have hbk1 := hL1.blk HBK.out (by simp [ob])
  have HBK1 := Lib.hid hbk1
  have b0 : w1.cell? ⟨w.heap.size, 0, none⟩ = some (.string p) := by rw [hbk1.cell]; rfl
  have b1 : w1.cell? ⟨w.heap.size, 1, none⟩ = some (.int .i64 n) := by rw [hbk1.cell]; rfl
  have b2 : w1.cell? ⟨w.heap.size, 2, none⟩ = some (.bool s) := by rw [hbk1.cell]; rfl
  have hz1 : w.heap.size + 1 ≤ w1.heap.size := hbk1.lt
  have HRX := Lib.hid (fun W : World => Reads.row W 112 #[.string p, .int .i64 n, .bool s])
  clear hO1 hL1 hG1 hbk1
  go_upto_region 6 with (at_builtin; refine wpList_app _ (.tmp 23) (.tmp 25) rfl rfl InsLeaf.elem rfl rfl (HO1.out.alloc _) (HRX.out w1) h3 hF2 (by simp <;> omega) ?_; intro V2 c2 w2 hO2 hL2 hG2)
  have HO2 := Lib.hid hO2
  have HB2 : Hid (Below w.heap.size w w2) := (HB1.out.alloc HB1.out.size _).trans (hL2.below (by simp <;> omega) (fun g hg => by have := (HO1.out.lt g hg).1; omega))
  have hz2 : w.heap.size + 1 ≤ w2.heap.size := by have := hL2.size; simp at this; omega
  clear hO2 hL2 hG2 b0 b1 b2
  go_wp2_with (at_builtin; refine wpList_app _ (.tmp 30) (.tmp 33) rfl rfl InsLeaf.elem rfl rfl HO2.out (HD.out.below HB2.out) h2 hF3 hz2 ?_; intro V3 c3 w3 hO3 hL3 hG3)
  go_ret2
  have hlen : (l.set i ⟨p, n, s⟩).length = i + 1 + (l.length - (i + 1)) := by rw [List.length_set]; omega
  have hcl : lcells (l.set i ⟨p, n, s⟩) = ((lcells l).take (i * 3) ++ LLeaf.cells ⟨p, n, s⟩) ++ (lcells l).drop ((i + 1) * 3) := by
    rw [lcells_take, lcells_drop, List.set_eq_take_append_cons_drop, if_pos hi]
    simp [lcells]
  refine ⟨V3, c3, by rw [hlen]; simp, ?_, HB2.out.trans (hL3.below HB2.out.size (fun g hg => by have := (HO2.out.lt g hg).1; omega))⟩
  rw [hlen, hcl]
  have := hO3.mono (show w.heap.size ≤ w.heap.size + 1 by omega)
  exact this
set_option maxRecDepth 100000 in
set_option maxHeartbeats 4000000 in
theorem rset_new (w : World) (A : Option Addr) (c : Nat) (l : List LLeaf) (i : Nat) (x : LLeaf) (h : Reads w w.heap.size 3 A l.length (lcells l)) (hn : l.length ≤ 300) (hc : l.length ≤ c) (hcm : c ≤ 9223372036854775807) (hi : i ≤ l.length) :
    Calls Tryz.prog 92 #[.slice A l.length c, .int .i64 i, .bool false, .agg #[.string x.place, .int .i64 x.letter, .bool x.struck]] w (RLeafsPost w (putRes l i x) (putErr l)) := by
  obtain ⟨p, n, s⟩ := x
  by_cases hf : 300 ≤ l.length
  · have HE : Hid (putErr l = 4 ∧ putRes l i ⟨p, n, s⟩ = []) := ⟨if_pos hf, if_pos hf⟩
    go_enter Tryz.func92, Tryz.ntmps92
    go_wp2_with fail
    go_ret2
    rw [HE.out.1, HE.out.2]
    exact rleafs_none ((Below.refl _ _).alloc (Nat.le_refl _) _)
  have HE : Hid (putErr l = 0 ∧ putRes l i ⟨p, n, s⟩ = bookPut l i ⟨p, n, s⟩) := ⟨if_neg hf, if_neg hf⟩
  have HB0 : Hid (Below w.heap.size w (w.alloc (.cells #[.string p, .int .i64 n, .bool s] 112))) := (Below.refl _ _).alloc (Nat.le_refl _) _
  have HBK := Lib.hid (Blk.new w 112 #[.string p, .int .i64 n, .bool s])
  have HR := Lib.hid h
  have hsl1 := fun W => run_nilslice InsLeaf.elem A l.length c i (by omega) W
  have hsl2 := fun W => run_tailAt InsLeaf.elem A l.length c i (by omega) W
  have hF1 : Fits (0 + i) 32 := Fits.of_small (by omega) (by decide)
  have hF2 : Fits (i + 1) 32 := Fits.of_small (by omega) (by decide)
  have hF3 : Fits (i + 1 + (l.length - i)) 32 := Fits.of_small (by omega) (by decide)
  have HT : Hid (Reads w w.heap.size 3 A i ((lcells l).take (i * 3))) := h.head (by omega)
  have HD : Hid (Reads w w.heap.size 3 (tailA A c i 3) (l.length - i) ((lcells l).drop (i * 3))) := h.tail (by omega) hc
  have h1 : OneCells ((lcells l).take (i * 3)) := fun u hu => oneCells_l l u (List.mem_of_mem_take hu)
  have h2 : OneCells ((lcells l).drop (i * 3)) := fun u hu => oneCells_l l u (List.mem_of_mem_drop hu)
  have h3 : OneCells (LLeaf.cells ⟨p, n, s⟩) := by intro u hu; simp [LLeaf.cells] at hu; rcases hu with rfl | rfl | rfl <;> rfl
  have hi0 : (i : Int) ≤ (l.length : Int) := by omega
  clear h
  go_enter Tryz.func92, Tryz.ntmps92
  go_upto_region 5 with (at_builtin; refine wpList_app _ (.tmp 18) (.tmp 21) rfl rfl InsLeaf.elem rfl rfl (Own.nil _ (w.heap.size + 1) _ 3) (HT.out.below HB0.out) h1 hF1 (by simp) ?_; intro V1 c1 w1 hO1 hL1 hG1)
  rw [Nat.zero_add, List.nil_append] at hO1
  have HO1 := Lib.hid hO1
  have HB1 : Hid (Below w.heap.size w w1) := HB0.out.trans (hL1.below (B := w.heap.size) (by simp) (by simp [ob]))
  have hbk1 := hL1.blk HBK.out (by simp [ob])
  have HBK1 := Lib.hid hbk1
  have b0 : w1.cell? ⟨w.heap.size, 0, none⟩ = some (.string p) := by rw [hbk1.cell]; rfl
  have b1 : w1.cell? ⟨w.heap.size, 1, none⟩ = some (.int .i64 n) := by rw [hbk1.cell]; rfl
  have b2 : w1.cell? ⟨w.heap.size, 2, none⟩ = some (.bool s) := by rw [hbk1.cell]; rfl
  have hz1 : w.heap.size + 1 ≤ w1.heap.size := hbk1.lt
  have HRX := Lib.hid (fun W : World => Reads.row W 112 #[.string p, .int .i64 n, .bool s])
  clear hO1 hL1 hG1 hbk1
  go_upto_region 6 with (at_builtin; refine wpList_app _ (.tmp 23) (.tmp 25) rfl rfl InsLeaf.elem rfl rfl (HO1.out.alloc _) (HRX.out w1) h3 hF2 (by simp <;> omega) ?_; intro V2 c2 w2 hO2 hL2 hG2)
  have HO2 := Lib.hid hO2
  have HB2 : Hid (Below w.heap.size w w2) := (HB1.out.alloc HB1.out.size _).trans (hL2.below (by simp <;> omega) (fun g hg => by have := (HO1.out.lt g hg).1; omega))
  have hz2 : w.heap.size + 1 ≤ w2.heap.size := by have := hL2.size; simp at this; omega
  clear hO2 hL2 hG2 b0 b1 b2
  go_wp2_with (at_builtin; refine wpList_app _ (.tmp 30) (.tmp 33) rfl rfl InsLeaf.elem rfl rfl HO2.out (HD.out.below HB2.out) h2 hF3 hz2 ?_; intro V3 c3 w3 hO3 hL3 hG3)
  go_ret2
  rw [HE.out.1, HE.out.2]
  have hlen : (bookPut l i ⟨p, n, s⟩).length = i + 1 + (l.length - i) := by rw [bookPut_len _ _ _ hi]; omega
  have hcl : lcells (bookPut l i ⟨p, n, s⟩) = ((lcells l).take (i * 3) ++ LLeaf.cells ⟨p, n, s⟩) ++ (lcells l).drop (i * 3) := (lcells_put l i ⟨p, n, s⟩).symm
  refine ⟨V3, c3, by rw [hlen]; simp, ?_, HB2.out.trans (hL3.below HB2.out.size (fun g hg => by have := (HO2.out.lt g hg).1; omega))⟩
  rw [hlen, hcl]
  have := hO3.mono (show w.heap.size ≤ w.heap.size + 1 by omega)
  exact this
end Go.Proofs.YtngalkmmpjegkaaGreatDoor
/- The document's Write, Strike, walked. Conditions: a book that is right. -/
namespace Go.Proofs.YtngalkmmpjegkaaGreatDoor
open Go.RowKit
set_option linter.unusedVariables false
/-- What is wrong with a letter at a place, of a book that is right. -/
def rwErr (l : List LLeaf) (p : ByteArray) (n : Int) : Int :=
  if letterB n = false then 1 else if hasAt l p = false then putErr l else if (leafAt l p).letter ≠ 0 ∧ (leafAt l p).letter ≠ n then 7 else 0
theorem writeErr_ready {l : List LLeaf} {p : ByteArray} (h : bookReady l p = 0) (n : Int) : writeErr l p n = rwErr l p n := by unfold writeErr rwErr; rw [if_neg (fun hh => hh h)]
def rsErr (l : List LLeaf) (p : ByteArray) : Int := if hasAt l p = false then putErr l else 0
theorem strikeErr_ready {l : List LLeaf} {p : ByteArray} (h : bookReady l p = 0) : strikeErr l p = rsErr l p := by unfold strikeErr rsErr; rw [if_neg (fun hh => hh h)]
theorem leafAt_has {l : List LLeaf} {p : ByteArray} (h : hasAt l p = true) : ∃ hi : ahead l p < l.length, leafAt l p = l[ahead l p] ∧ (leafAt l p).place = p := by
  have hlt := hasAt_lt h
  have hla : leafAt l p = l[ahead l p] := by unfold leafAt; simp [List.getD, hlt]
  refine ⟨hlt, hla, ?_⟩
  unfold hasAt at h
  rw [List.getElem?_eq_getElem hlt] at h
  rw [hla]
  exact same_toList.1 (by simpa using h)
set_option maxRecDepth 100000 in
set_option maxHeartbeats 2000000 in
theorem rwrite_any (w : World) (A : Option Addr) (c : Nat) (l : List LLeaf) (p : ByteArray) (n : Int) (h : Reads w w.heap.size 3 A l.length (lcells l)) (ok : BookOk l) (hc : l.length ≤ c) (hcm : c ≤ 9223372036854775807) :
    Calls Tryz.prog 50 #[.slice A l.length c, .string p, .int .i64 n] w (RLeafsPost w (giveL (rwErr l p n) (writeRes l p n)) (rwErr l p n)) := by
  have HL := Lib.hid (fun w => rletter_any w n)
  have HA := Lib.hid (fun w (h : Reads w w.heap.size 3 A l.length (lcells l)) => rahead_any w A c l p h (by have := ok.few; omega) ok.rising)
  have hfew := ok.few
  have HR := Lib.hid h
  clear ok
  by_cases hl : letterB n = true
  · have HLt := Lib.hid hl
    cases hh : hasAt l p with
    | false =>
      have hal := ahead_le l p
      have HS := Lib.hid (fun W (h : Reads W W.heap.size 3 A l.length (lcells l)) => rset_new W A c l (ahead l p) ⟨p, n, false⟩ h hfew hc hcm hal)
      have HW : Hid (rwErr l p n = putErr l ∧ giveL (rwErr l p n) (writeRes l p n) = putRes l (ahead l p) ⟨p, n, false⟩) := by
        have h1 : rwErr l p n = putErr l := by unfold rwErr; rw [if_neg (by rw [hl]; decide), if_pos hh]
        exact ⟨h1, by rw [h1, putRes_give, writeRes, if_neg (by rw [hh]; decide)]⟩
      by_cases hlt : ahead l p < l.length
      · obtain ⟨ad, hA, hb, c0, _, _⟩ := h.leaf hlt
        have hne : (l[ahead l p].place.toList == p.toList) = false := by
          unfold hasAt at hh
          rw [List.getElem?_eq_getElem hlt] at hh
          exact hh
        have i0 : (0 : Int) ≤ (ahead l p : Int) := by omega
        have i1 : (ahead l p : Int) < (l.length : Int) := by omega
        clear hl hh h
        subst hA
        generalize l[ahead l p].place = q at *
        go_enter Tryz.func50, Tryz.ntmps50
        go_wp2_with fail
        refine (HL.out _).mono ?_
        rintro e w1 ⟨rfl, rfl⟩
        rw [HLt.out]
        go_wp2_with fail
        refine (HA.out _ HR.out).mono ?_
        rintro e w1 ⟨rfl, rfl⟩
        have HRA := Lib.hid (HR.out.alloc (Nat.le_refl _) (.cells #[.string p, .int .i64 n, .bool false] 112))
        go_wp2_with fail
        refine (HS.out _ (HRA.out.more (by simp))).mono ?_
        rintro e w3 ⟨V, cV, rfl, hO3, hb3⟩
        have HO3 := Lib.hid hO3
        have HB3 := Lib.hid hb3
        clear hb3 hO3
        go_wp2_with fail
        go_ret2
        rw [HW.out.2, HW.out.1]
        exact ⟨V, cV, rfl, HO3.out.mono (by simp), ((Below.refl _ _).alloc (Nat.le_refl _) _).trans (HB3.out.mono (by simp))⟩
      · have d1 : decide ((ahead l p : Int) < (l.length : Int)) = false := decide_eq_false (by omega)
        clear hl hh h
        go_enter Tryz.func50, Tryz.ntmps50
        go_wp2_with fail
        refine (HL.out _).mono ?_
        rintro e w1 ⟨rfl, rfl⟩
        rw [HLt.out]
        go_wp2_with fail
        refine (HA.out _ HR.out).mono ?_
        rintro e w1 ⟨rfl, rfl⟩
        have HRA := Lib.hid (HR.out.alloc (Nat.le_refl _) (.cells #[.string p, .int .i64 n, .bool false] 112))
        go_wp2_with fail
        refine (HS.out _ (HRA.out.more (by simp))).mono ?_
        rintro e w3 ⟨V, cV, rfl, hO3, hb3⟩
        have HO3 := Lib.hid hO3
        have HB3 := Lib.hid hb3
        clear hb3 hO3
        go_wp2_with fail
        go_ret2
        rw [HW.out.2, HW.out.1]
        exact ⟨V, cV, rfl, HO3.out.mono (by simp), ((Below.refl _ _).alloc (Nat.le_refl _) _).trans (HB3.out.mono (by simp))⟩
    | true =>
      obtain ⟨hlt, hla, hpl⟩ := leafAt_has hh
      obtain ⟨ad, hA, hb, c0, c1, c2⟩ := h.leaf hlt
      rw [← hla] at c0 c1 c2
      rw [hpl] at c0
      have HWR : Hid (writeRes l p n = l.set (ahead l p) ⟨p, n, (leafAt l p).struck⟩) := by show _ = _; rw [writeRes, if_pos hh]; unfold LLeaf.write; rw [hpl]
      have hwe : rwErr l p n = if (leafAt l p).letter ≠ 0 ∧ (leafAt l p).letter ≠ n then 7 else 0 := by unfold rwErr; rw [if_neg (by rw [hl]; decide), if_neg (by rw [hh]; decide)]
      have HS := Lib.hid (fun W b (h : Reads W W.heap.size 3 A l.length (lcells l)) => rset_has W A c l (ahead l p) ⟨p, n, b⟩ h hfew hc hcm hlt)
      have i0 : (0 : Int) ≤ (ahead l p : Int) := by omega
      have i1 : (ahead l p : Int) < (l.length : Int) := by omega
      have b0 : (p.toList == p.toList) = true := by simp
      have hadb : (ad.add (ahead l p * 3)).block < w.heap.size := by rw [block_of_add]; exact hb
      clear hl hh h hla hpl
      subst hA
      generalize leafAt l p = x at *
      have d1 : ∀ o, (w.alloc o).cell? ⟨(ad.add (ahead l p * 3)).block, (ad.add (ahead l p * 3)).off + 1, none⟩ = some (.int .i64 x.letter) := fun o => (World.cell?_alloc_lt w o _ (by exact hadb)).trans c1
      have d2 : ∀ o, (w.alloc o).cell? ⟨(ad.add (ahead l p * 3)).block, (ad.add (ahead l p * 3)).off + 2, none⟩ = some (.bool x.struck) := fun o => (World.cell?_alloc_lt w o _ (by exact hadb)).trans c2
      by_cases hbad : x.letter ≠ 0 ∧ x.letter ≠ n
      · have HW : Hid (rwErr l p n = 7) := by show _ = _; rw [hwe, if_pos hbad]
        have g1 : (x.letter != 0) = true := by simpa using hbad.1
        have g2 : (x.letter != n) = true := by simpa using hbad.2
        clear hwe hbad
        go_enter Tryz.func50, Tryz.ntmps50
        go_wp2_with fail
        refine (HL.out _).mono ?_
        rintro e w1 ⟨rfl, rfl⟩
        rw [HLt.out]
        go_wp2_with fail
        refine (HA.out _ HR.out).mono ?_
        rintro e w1 ⟨rfl, rfl⟩
        go_wp2_with fail
        go_ret2
        rw [HW.out, giveL_bad (by decide)]
        exact rleafs_none ((Below.refl _ _).alloc (Nat.le_refl _) _)
      · have HW : Hid (rwErr l p n = 0) := by show _ = _; rw [hwe, if_neg hbad]
        have HG := Lib.hid hbad
        clear hwe hbad
        by_cases h0 : x.letter = 0
        · have g1 : (x.letter != 0) = false := by simp [h0]
          clear h0
          go_enter Tryz.func50, Tryz.ntmps50
          go_wp2_with fail
          refine (HL.out _).mono ?_
          rintro e w1 ⟨rfl, rfl⟩
          rw [HLt.out]
          go_wp2_with fail
          refine (HA.out _ HR.out).mono ?_
          rintro e w1 ⟨rfl, rfl⟩
          have HRA := Lib.hid (HR.out.alloc (Nat.le_refl _) (.cells #[.string p, .int .i64 n, .bool x.struck] 112))
          go_wp2_with fail
          refine (HS.out _ _ (HRA.out.more (by simp))).mono ?_
          rintro e w3 ⟨V, cV, rfl, hO3, hb3⟩
          have HO3 := Lib.hid hO3
          have HB3 := Lib.hid hb3
          clear hb3 hO3
          go_wp2_with fail
          go_ret2
          rw [HW.out, giveL, if_pos rfl, HWR.out]
          exact ⟨V, cV, by rw [List.length_set]; rfl, HO3.out.mono (by simp), ((Below.refl _ _).alloc (Nat.le_refl _) _).trans (HB3.out.mono (by simp))⟩
        · have g1 : (x.letter != 0) = true := by simpa using h0
          have g2 : (x.letter != n) = false := by
            cases hc : (x.letter != n)
            · rfl
            · exact absurd ⟨h0, by simpa using hc⟩ HG.out
          clear h0
          go_enter Tryz.func50, Tryz.ntmps50
          go_wp2_with fail
          refine (HL.out _).mono ?_
          rintro e w1 ⟨rfl, rfl⟩
          rw [HLt.out]
          go_wp2_with fail
          refine (HA.out _ HR.out).mono ?_
          rintro e w1 ⟨rfl, rfl⟩
          have HRA := Lib.hid (HR.out.alloc (Nat.le_refl _) (.cells #[.string p, .int .i64 n, .bool x.struck] 112))
          go_wp2_with fail
          refine (HS.out _ _ (HRA.out.more (by simp))).mono ?_
          rintro e w3 ⟨V, cV, rfl, hO3, hb3⟩
          have HO3 := Lib.hid hO3
          have HB3 := Lib.hid hb3
          clear hb3 hO3
          go_wp2_with fail
          go_ret2
          rw [HW.out, giveL, if_pos rfl, HWR.out]
          exact ⟨V, cV, by rw [List.length_set]; rfl, HO3.out.mono (by simp), ((Below.refl _ _).alloc (Nat.le_refl _) _).trans (HB3.out.mono (by simp))⟩
  · have hl2 : letterB n = false := by simpa using hl
    have HLt := Lib.hid hl2
    have HW : Hid (rwErr l p n = 1) := by show _ = _; unfold rwErr; rw [if_pos hl2]
    clear hl hl2 h
    go_enter Tryz.func50, Tryz.ntmps50
    go_wp2_with fail
    refine (HL.out _).mono ?_
    rintro e w1' ⟨rfl, rfl⟩
    rw [HLt.out]
    go_wp2_with fail
    go_ret2
    rw [HW.out, giveL_bad (by decide)]
    exact rleafs_none (Below.refl _ _)
set_option maxRecDepth 100000 in
set_option maxHeartbeats 2000000 in
theorem rstrike_any (w : World) (A : Option Addr) (c : Nat) (l : List LLeaf) (p : ByteArray) (h : Reads w w.heap.size 3 A l.length (lcells l)) (ok : BookOk l) (hc : l.length ≤ c) (hcm : c ≤ 9223372036854775807) :
    Calls Tryz.prog 51 #[.slice A l.length c, .string p] w (RLeafsPost w (giveL (rsErr l p) (strikeRes l p)) (rsErr l p)) := by
  have HA := Lib.hid (fun w (h : Reads w w.heap.size 3 A l.length (lcells l)) => rahead_any w A c l p h (by have := ok.few; omega) ok.rising)
  have hfew := ok.few
  have HR := Lib.hid h
  clear ok
  cases hh : hasAt l p with
  | false =>
    have hal := ahead_le l p
    have HS := Lib.hid (fun W (h : Reads W W.heap.size 3 A l.length (lcells l)) => rset_new W A c l (ahead l p) ⟨p, 0, true⟩ h hfew hc hcm hal)
    have HW : Hid (rsErr l p = putErr l ∧ giveL (rsErr l p) (strikeRes l p) = putRes l (ahead l p) ⟨p, 0, true⟩) := by
      have h1 : rsErr l p = putErr l := by unfold rsErr; rw [if_pos hh]
      exact ⟨h1, by rw [h1, putRes_give, strikeRes, if_neg (by rw [hh]; decide)]⟩
    by_cases hlt : ahead l p < l.length
    · obtain ⟨ad, hA, hb, c0, _, _⟩ := h.leaf hlt
      have hne : (l[ahead l p].place.toList == p.toList) = false := by
        unfold hasAt at hh
        rw [List.getElem?_eq_getElem hlt] at hh
        exact hh
      have i0 : (0 : Int) ≤ (ahead l p : Int) := by omega
      have i1 : (ahead l p : Int) < (l.length : Int) := by omega
      clear hh h
      subst hA
      generalize l[ahead l p].place = q at *
      go_enter Tryz.func51, Tryz.ntmps51
      go_wp2_with fail
      refine (HA.out _ HR.out).mono ?_
      rintro e w1 ⟨rfl, rfl⟩
      have HRA := Lib.hid (HR.out.alloc (Nat.le_refl _) (.cells #[.string p, .int .i64 0, .bool true] 112))
      go_wp2_with fail
      refine (HS.out _ (HRA.out.more (by simp))).mono ?_
      rintro e w3 ⟨V, cV, rfl, hO3, hb3⟩
      have HO3 := Lib.hid hO3
      have HB3 := Lib.hid hb3
      clear hb3 hO3
      go_wp2_with fail
      go_ret2
      rw [HW.out.2, HW.out.1]
      exact ⟨V, cV, rfl, HO3.out.mono (by simp), ((Below.refl _ _).alloc (Nat.le_refl _) _).trans (HB3.out.mono (by simp))⟩
    · have d1 : decide ((ahead l p : Int) < (l.length : Int)) = false := decide_eq_false (by omega)
      clear hh h
      go_enter Tryz.func51, Tryz.ntmps51
      go_wp2_with fail
      refine (HA.out _ HR.out).mono ?_
      rintro e w1 ⟨rfl, rfl⟩
      have HRA := Lib.hid (HR.out.alloc (Nat.le_refl _) (.cells #[.string p, .int .i64 0, .bool true] 112))
      go_wp2_with fail
      refine (HS.out _ (HRA.out.more (by simp))).mono ?_
      rintro e w3 ⟨V, cV, rfl, hO3, hb3⟩
      have HO3 := Lib.hid hO3
      have HB3 := Lib.hid hb3
      clear hb3 hO3
      go_wp2_with fail
      go_ret2
      rw [HW.out.2, HW.out.1]
      exact ⟨V, cV, rfl, HO3.out.mono (by simp), ((Below.refl _ _).alloc (Nat.le_refl _) _).trans (HB3.out.mono (by simp))⟩
  | true =>
    obtain ⟨hlt, hla, hpl⟩ := leafAt_has hh
    obtain ⟨ad, hA, hb, c0, c1, c2⟩ := h.leaf hlt
    rw [← hla] at c0 c1 c2
    rw [hpl] at c0
    have HWR : Hid (strikeRes l p = l.set (ahead l p) ⟨p, (leafAt l p).letter, true⟩) := by show _ = _; rw [strikeRes, if_pos hh]; unfold LLeaf.strike; rw [hpl]
    have HW : Hid (rsErr l p = 0) := by show _ = _; unfold rsErr; rw [if_neg (by rw [hh]; decide)]
    have HS := Lib.hid (fun W b (h : Reads W W.heap.size 3 A l.length (lcells l)) => rset_has W A c l (ahead l p) ⟨p, b, true⟩ h hfew hc hcm hlt)
    have i0 : (0 : Int) ≤ (ahead l p : Int) := by omega
    have i1 : (ahead l p : Int) < (l.length : Int) := by omega
    have b0 : (p.toList == p.toList) = true := by simp
    have hadb : (ad.add (ahead l p * 3)).block < w.heap.size := by rw [block_of_add]; exact hb
    clear hh h hla hpl
    subst hA
    generalize leafAt l p = x at *
    have d1 : ∀ o, (w.alloc o).cell? ⟨(ad.add (ahead l p * 3)).block, (ad.add (ahead l p * 3)).off + 1, none⟩ = some (.int .i64 x.letter) := fun o => (World.cell?_alloc_lt w o _ (by exact hadb)).trans c1
    go_enter Tryz.func51, Tryz.ntmps51
    go_wp2_with fail
    refine (HA.out _ HR.out).mono ?_
    rintro e w1 ⟨rfl, rfl⟩
    have HRA := Lib.hid (HR.out.alloc (Nat.le_refl _) (.cells #[.string p, .int .i64 x.letter, .bool true] 112))
    go_wp2_with fail
    refine (HS.out _ _ (HRA.out.more (by simp))).mono ?_
    rintro e w3 ⟨V, cV, rfl, hO3, hb3⟩
    have HO3 := Lib.hid hO3
    have HB3 := Lib.hid hb3
    clear hb3 hO3
    go_wp2_with fail
    go_ret2
    rw [HW.out, giveL, if_pos rfl, HWR.out]
    exact ⟨V, cV, by rw [List.length_set]; rfl, HO3.out.mono (by simp), ((Below.refl _ _).alloc (Nat.le_refl _) _).trans (HB3.out.mono (by simp))⟩
end Go.Proofs.YtngalkmmpjegkaaGreatDoor

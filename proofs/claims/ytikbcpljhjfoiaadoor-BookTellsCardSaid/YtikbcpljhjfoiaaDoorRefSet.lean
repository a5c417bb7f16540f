/- The document's set, walked. Conditions: a book that is not too long. -/
import Derived.Test.YtikbcpljhjfoiaaDoorBookWrite
import Derived.Test.YtikbcpljhjfoiaaDoorRefText
namespace Go.Proofs.YtikbcpljhjfoiaaDoor
open Go.RowKit
set_option linter.unusedVariables false
/-- A book and a number are given back; the book is of the call's own. -/
def RLeafsPost (w : World) (l : List LLeaf) (k : Int) (e : Ending) (w' : World) : Prop :=
  ∃ V c, e = .returned (.tuple #[.slice V l.length c, .int .i64 k]) ∧ Own w' w.heap.size 29 3 V l.length c (lcells l) ∧ Below w.heap.size w w'
theorem rleafs_none {w w' : World} {k : Int} (hb : Below w.heap.size w w') : RLeafsPost w [] k (.returned (.tuple #[.slice none 0 0, .int .i64 k])) w' := ⟨none, 0, rfl, Own.nil _ _ _ _, hb⟩
theorem run_nilslice {P : Program} {t e : TypeId} {size bytes : Nat} (hE : Elem P t e size bytes) (A : Option Addr) (n c i : Nat) (h : i ≤ c) (W : World) :
    (Instr.sliceAt t (.slice A n c) none (some (.int .i64 i)) none).run P W = .ok (.slice A i c) W := by
  obtain ⟨ht, ⟨inf, z, hi, hz, hsize, hby, hzs⟩, hsz⟩ := hE
  simp [Instr.sliceAt, Instr.slice, run_underlying ht, Instr.sliceBounds, run_sliceBound, sizeOf, typeInfo, hi, h]
  cases A <;> simp [Addr.add]
set_option maxRecDepth 100000 in
set_option maxHeartbeats 4000000 in
theorem rset_has (w : World) (A : Option Addr) (c : Nat) (l : List LLeaf) (i : Nat) (x : LLeaf) (h : Reads w w.heap.size 3 A l.length (lcells l)) (hn : l.length ≤ 300) (hc : l.length ≤ c) (hcm : c ≤ 9223372036854775807) (hi : i < l.length) :
    Calls Tryd.prog 119 #[.slice A l.length c, .int .i64 i, .bool true, .agg #[.string x.place, .int .i64 x.letter, .bool x.struck]] w (RLeafsPost w (l.set i x) 0) := by
  obtain ⟨p, n, s⟩ := x
  have HB0 : Hid (Below w.heap.size w (w.alloc (.cells #[.string p, .int .i64 n, .bool s] 29))) := (Below.refl _ _).alloc (Nat.le_refl _) _
  have HBK := Lib.hid (Blk.new w 29 #[.string p, .int .i64 n, .bool s])
  have HR := Lib.hid h
  have hsl1 := fun W => run_nilslice InsLeaf.elem A l.length c i (by omega) W
  have hsl2 := fun W => run_tailAt InsLeaf.elem A l.length c (i + 1) (by omega) W
  have hsl2' : ∀ W, (Instr.sliceAt 22 (.slice A l.length c) (some (.int .i64 ((i : Int) + 1))) none none).run Tryd.prog W = .ok (.slice (tailA A c (i + 1) 3) (l.length - (i + 1)) (c - (i + 1))) W := hsl2
  clear hsl2
  have hF1 : Fits (0 + i) 32 := Fits.of_small (by omega) (by decide)
  have hF2 : Fits (i + 1) 32 := Fits.of_small (by omega) (by decide)
  have hF3 : Fits (i + 1 + (l.length - (i + 1))) 32 := Fits.of_small (by omega) (by decide)
  have HT : Hid (Reads w w.heap.size 3 A i ((lcells l).take (i * 3))) := h.head (by omega)
  have HD : Hid (Reads w w.heap.size 3 (tailA A c (i + 1) 3) (l.length - (i + 1)) ((lcells l).drop ((i + 1) * 3))) := h.tail (by omega) hc
  have h1 : OneCells ((lcells l).take (i * 3)) := fun u hu => oneCells_l l u (List.mem_of_mem_take hu)
  have h2 : OneCells ((lcells l).drop ((i + 1) * 3)) := fun u hu => oneCells_l l u (List.mem_of_mem_drop hu)
  have h3 : OneCells (LLeaf.cells ⟨p, n, s⟩) := by intro u hu; simp [LLeaf.cells] at hu; rcases hu with rfl | rfl | rfl <;> rfl
  have q1 : IntKind.i64.wrap ((i : Int) + 1) = (i : Int) + 1 := IntWalk.i64_in _ (by omega)
  have hi0 : (i : Int) < (l.length : Int) := by omega
  clear h
  go_enter Tryd.func119, Tryd.ntmps119
  go_upto_region 5 with (at_builtin; refine wpList_app _ (.tmp 18) (.tmp 21) rfl rfl InsLeaf.elem rfl rfl (Own.nil _ (w.heap.size + 1) _ 3) (HT.out.below HB0.out) h1 hF1 (by simp) ?_; intro V1 c1 w1 hO1 hL1 hG1)
  rw [Nat.zero_add, List.nil_append] at hO1
  have HO1 := Lib.hid hO1
  have HB1 : Hid (Below w.heap.size w w1) := HB0.out.trans (hL1.below (B := w.heap.size) (by simp) (by simp [ob]))
  have hbk1 := hL1.blk HBK.out (by simp [ob])
  have HBK1 := Lib.hid hbk1
  have b0 : w1.cell? ⟨w.heap.size, 0, none⟩ = some (.string p) := by rw [hbk1.cell]; rfl
  have b1 : w1.cell? ⟨w.heap.size, 1, none⟩ = some (.int .i64 n) := by rw [hbk1.cell]; rfl
  have b2 : w1.cell? ⟨w.heap.size, 2, none⟩ = some (.bool s) := by rw [hbk1.cell]; rfl
  have hz1 : w.heap.size + 1 ≤ w1.heap.size := hbk1.lt
  have HRX := Lib.hid (fun W : World => Reads.row W 29 #[.string p, .int .i64 n, .bool s])
  clear hO1 hL1 hG1 hbk1
  go_upto_region 6 with (at_builtin; refine wpList_app _ (.tmp 23) (.tmp 25) rfl rfl InsLeaf.elem rfl rfl (HO1.out.alloc _) (HRX.out w1) h3 hF2 (by simp <;> omega) ?_; intro V2 c2 w2 hO2 hL2 hG2)
  have HO2 := Lib.hid hO2
  have HB2 : Hid (Below w.heap.size w w2) := (HB1.out.alloc HB1.out.size _).trans (hL2.below (by simp <;> omega) (fun g hg => by have := (HO1.out.lt g hg).1; omega))
  have hz2 : w.heap.size + 1 ≤ w2.heap.size := by have := hL2.size; simp at this; omega
  clear hO2 hL2 hG2 b0 b1 b2
  go_wp2_with (at_builtin; refine wpList_app _ (.tmp 30) (.tmp 33) rfl rfl InsLeaf.elem rfl rfl HO2.out (HD.out.below HB2.out) h2 hF3 hz2 ?_; intro V3 c3 w3 hO3 hL3 hG3)
  go_ret2
  have hlen : (l.set i ⟨p, n, s⟩).length = i + 1 + (l.length - (i + 1)) := by rw [List.length_set]; omega
  have hcl : lcells (l.set i ⟨p, n, s⟩) = ((lcells l).take (i * 3) ++ LLeaf.cells ⟨p, n, s⟩) ++ (lcells l).drop ((i + 1) * 3) := by
    rw [lcells_take, lcells_drop, List.set_eq_take_append_cons_drop, if_pos hi]
    simp [lcells]
  refine ⟨V3, c3, by rw [hlen]; simp, ?_, HB2.out.trans (hL3.below HB2.out.size (fun g hg => by have := (HO2.out.lt g hg).1; omega))⟩
  rw [hlen, hcl]
  have := hO3.mono (show w.heap.size ≤ w.heap.size + 1 by omega)
  exact this
set_option maxRecDepth 100000 in
set_option maxHeartbeats 4000000 in
theorem rset_new (w : World) (A : Option Addr) (c : Nat) (l : List LLeaf) (i : Nat) (x : LLeaf) (h : Reads w w.heap.size 3 A l.length (lcells l)) (hn : l.length ≤ 300) (hc : l.length ≤ c) (hcm : c ≤ 9223372036854775807) (hi : i ≤ l.length) :
    Calls Tryd.prog 119 #[.slice A l.length c, .int .i64 i, .bool false, .agg #[.string x.place, .int .i64 x.letter, .bool x.struck]] w (RLeafsPost w (putRes l i x) (putErr l)) := by
  obtain ⟨p, n, s⟩ := x
  by_cases hf : 300 ≤ l.length
  · have HE : Hid (putErr l = 4 ∧ putRes l i ⟨p, n, s⟩ = []) := ⟨if_pos hf, if_pos hf⟩
    go_enter Tryd.func119, Tryd.ntmps119
    go_wp2_with fail
    go_ret2
    rw [HE.out.1, HE.out.2]
    exact rleafs_none ((Below.refl _ _).alloc (Nat.le_refl _) _)
  have HE : Hid (putErr l = 0 ∧ putRes l i ⟨p, n, s⟩ = bookPut l i ⟨p, n, s⟩) := ⟨if_neg hf, if_neg hf⟩
  have HB0 : Hid (Below w.heap.size w (w.alloc (.cells #[.string p, .int .i64 n, .bool s] 29))) := (Below.refl _ _).alloc (Nat.le_refl _) _
  have HBK := Lib.hid (Blk.new w 29 #[.string p, .int .i64 n, .bool s])
  have HR := Lib.hid h
  have hsl1 := fun W => run_nilslice InsLeaf.elem A l.length c i (by omega) W
  have hsl2 := fun W => run_tailAt InsLeaf.elem A l.length c i (by omega) W
  have hF1 : Fits (0 + i) 32 := Fits.of_small (by omega) (by decide)
  have hF2 : Fits (i + 1) 32 := Fits.of_small (by omega) (by decide)
  have hF3 : Fits (i + 1 + (l.length - i)) 32 := Fits.of_small (by omega) (by decide)
  have HT : Hid (Reads w w.heap.size 3 A i ((lcells l).take (i * 3))) := h.head (by omega)
  have HD : Hid (Reads w w.heap.size 3 (tailA A c i 3) (l.length - i) ((lcells l).drop (i * 3))) := h.tail (by omega) hc
  have h1 : OneCells ((lcells l).take (i * 3)) := fun u hu => oneCells_l l u (List.mem_of_mem_take hu)
  have h2 : OneCells ((lcells l).drop (i * 3)) := fun u hu => oneCells_l l u (List.mem_of_mem_drop hu)
  have h3 : OneCells (LLeaf.cells ⟨p, n, s⟩) := by intro u hu; simp [LLeaf.cells] at hu; rcases hu with rfl | rfl | rfl <;> rfl
  have hi0 : (i : Int) ≤ (l.length : Int) := by omega
  clear h
  go_enter Tryd.func119, Tryd.ntmps119
  go_upto_region 5 with (at_builtin; refine wpList_app _ (.tmp 18) (.tmp 21) rfl rfl InsLeaf.elem rfl rfl (Own.nil _ (w.heap.size + 1) _ 3) (HT.out.below HB0.out) h1 hF1 (by simp) ?_; intro V1 c1 w1 hO1 hL1 hG1)
  rw [Nat.zero_add, List.nil_append] at hO1
  have HO1 := Lib.hid hO1
  have HB1 : Hid (Below w.heap.size w w1) := HB0.out.trans (hL1.below (B := w.heap.size) (by simp) (by simp [ob]))
  have hbk1 := hL1.blk HBK.out (by simp [ob])
  have HBK1 := Lib.hid hbk1
  have b0 : w1.cell? ⟨w.heap.size, 0, none⟩ = some (.string p) := by rw [hbk1.cell]; rfl
  have b1 : w1.cell? ⟨w.heap.size, 1, none⟩ = some (.int .i64 n) := by rw [hbk1.cell]; rfl
  have b2 : w1.cell? ⟨w.heap.size, 2, none⟩ = some (.bool s) := by rw [hbk1.cell]; rfl
  have hz1 : w.heap.size + 1 ≤ w1.heap.size := hbk1.lt
  have HRX := Lib.hid (fun W : World => Reads.row W 29 #[.string p, .int .i64 n, .bool s])
  clear hO1 hL1 hG1 hbk1
  go_upto_region 6 with (at_builtin; refine wpList_app _ (.tmp 23) (.tmp 25) rfl rfl InsLeaf.elem rfl rfl (HO1.out.alloc _) (HRX.out w1) h3 hF2 (by simp <;> omega) ?_; intro V2 c2 w2 hO2 hL2 hG2)
  have HO2 := Lib.hid hO2
  have HB2 : Hid (Below w.heap.size w w2) := (HB1.out.alloc HB1.out.size _).trans (hL2.below (by simp <;> omega) (fun g hg => by have := (HO1.out.lt g hg).1; omega))
  have hz2 : w.heap.size + 1 ≤ w2.heap.size := by have := hL2.size; simp at this; omega
  clear hO2 hL2 hG2 b0 b1 b2
  go_wp2_with (at_builtin; refine wpList_app _ (.tmp 30) (.tmp 33) rfl rfl InsLeaf.elem rfl rfl HO2.out (HD.out.below HB2.out) h2 hF3 hz2 ?_; intro V3 c3 w3 hO3 hL3 hG3)
  go_ret2
  rw [HE.out.1, HE.out.2]
  have hlen : (bookPut l i ⟨p, n, s⟩).length = i + 1 + (l.length - i) := by rw [bookPut_len _ _ _ hi]; omega
  have hcl : lcells (bookPut l i ⟨p, n, s⟩) = ((lcells l).take (i * 3) ++ LLeaf.cells ⟨p, n, s⟩) ++ (lcells l).drop (i * 3) := (lcells_put l i ⟨p, n, s⟩).symm
  refine ⟨V3, c3, by rw [hlen]; simp, ?_, HB2.out.trans (hL3.below HB2.out.size (fun g hg => by have := (HO2.out.lt g hg).1; omega))⟩
  rw [hlen, hcl]
  have := hO3.mono (show w.heap.size ≤ w.heap.size + 1 by omega)
  exact this
end Go.Proofs.YtikbcpljhjfoiaaDoor

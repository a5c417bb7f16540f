/- 10 texts in one: each says ahead of itself what is proved, and its conditions. -/
import Derived.Deep.CutBlock
import Derived.Deep.RegionHeld3
import Derived.Test.YtkaccnegdmpofaaGreatDoorBookFind
import Derived.Test.YtkaccnegdmpofaaGreatDoorBookWrite
import Derived.Test.YtkaccnegdmpofaaGreatDoorDocApply
import Derived.Test.YtkaccnegdmpofaaGreatDoorDocGo
import Derived.Test.YtkaccnegdmpofaaGreatDoorDocs2
import Derived.Test.YtkaccnegdmpofaaGreatDoorMarkCut
import Derived.Test.YtkaccnegdmpofaaGreatDoorMarkJoin
import Derived.Test.YtkaccnegdmpofaaGreatDoorRefDot
import Derived.Test.YtkaccnegdmpofaaGreatDoorRefOp
import Derived.Test.YtkaccnegdmpofaaGreatDoorSameMarks
import Derived.Test.YtkaccnegdmpofaaGreatDoorSmall
/- The document's Text, Nth, Ahead, walked. Conditions: a book that is right, or letters that are bytes. -/
namespace Go.Proofs.YtkaccnegdmpofaaGreatDoor
open Go.RowKit
set_option linter.unusedVariables false
set_option maxRecDepth 100000 in
set_option maxHeartbeats 2000000 in
theorem rtext_any (w : World) (A : Option Addr) (c : Nat) (l : List LLeaf) (h : Reads w w.heap.size 3 A l.length (lcells l)) (hf : Fit l) (hn : l.length ≤ 1000000) :
    Calls Tryz.prog 33 #[.slice A l.length c] w (CheckPost w (.string (textOf l))) := by
  have HR := Lib.hid h
  have HS := Lib.hid (fun w x => rseen_any w x)
  have HFt := Lib.hid hf
  clear h hf
  go_enter Tryz.func33, Tryz.ntmps33
  go_wp2_with fail
  go_loopw [3, 4] (fun v i wr => TextLoop w l v i wr) (fun _ i _ => l.length - (intOf i).toNat)
  case atStart => exact ⟨0, 0, none, by omega, rfl, rfl, Own.nil _ _ _ _, Below.refl _ _⟩
  case round =>
    obtain ⟨k, cv, V, hk, rfl, rfl, HO, HB⟩ := hrel
    by_cases hkn : k < l.length
    · obtain ⟨ad, rfl, hb, c0, c1, c2⟩ := (HR.out.below HB.out).leaf hkn
      have hlt : (k : Int) < (l.length : Int) := by omega
      have hk0 : (0 : Int) ≤ (k : Int) := by omega
      have htk := textL_take hkn
      have hfit := HFt.out l[k] (List.getElem_mem hkn)
      have hle := textL_le (l.take k)
      rw [List.length_take] at hle
      have hle2 : (textL (l.take k)).length ≤ k := by omega
      clear hle
      generalize l[k] = x at c0 c1 c2 htk hfit
      generalize textL (l.take k) = T at htk hle2 HO ⊢
      have HTK := Lib.hid htk
      have hadb : (ad.add (k * 3)).block < wr.heap.size := by rw [block_of_add]; have := HB.out.size; omega
      clear htk
      go_wp2_with fail
      refine (HS.out _ x).mono ?_
      rintro e w1 ⟨rfl, hb1⟩
      have HB1 : Hid (Below w.heap.size w w1) := HB.out.trans (hb1.mono HB.out.size)
      have HO1 := Lib.hid (HO.out.below hb1)
      have d1 : w1.cell? ⟨(ad.add (k * 3)).block, (ad.add (k * 3)).off + 1, none⟩ = some (.int .i64 x.letter) := (hb1.cell (by exact hadb)).trans c1
      clear hb1
      cases hs : seenB x with
      | true =>
        obtain ⟨n0, n1⟩ := hfit hs
        have HS1 := Lib.hid hs
        have hF : Fits (T.length + 1) 1 := Fits.of_small (by omega) (by decide)
        have HRB := Lib.hid (reads_byte w1 x.letter n0 n1 (.int .u8 x.letter) rfl)
        have HOb := HO1.out.alloc (.cells #[.int .u8 x.letter] 5)
        have hbase : w.heap.size ≤ (w1.alloc (.cells #[.int .u8 x.letter] 5)).heap.size := by have := HB1.out.size; simp; omega
        have HBb := Lib.hid (HB1.out.alloc HB1.out.size (.cells #[.int .u8 x.letter] 5))
        clear hs hfit
        go_wp2_with (at_builtin; go_loud (refine wpList_app _ (.tmp 18) (.tmp 25) rfl rfl elemB rfl rfl HOb HRB.out (oneCells_bs _) hF hbase ?_; intro V2 cv2 w2 HO2 HL2 HX2; have HOn := Lib.hid HO2; have HBn : Hid (Below w.heap.size w w2) := HBb.out.trans (HL2.below HBb.out.size (fun g hg => (HOb.lt g hg).1)); clear HO2 HL2 HX2 HOb))
        go_roundw
        case rel =>
          have hT : textL (l.take (k + 1)) = T ++ [Go.Proofs.YtkaccnegdmpofaaGreatDoor.u8 x.letter] := by rw [HTK.out, HS1.out]; rfl
          refine ⟨k + 1, cv2, V2, by omega, by go_num, by rw [hT, List.length_append]; rfl, Lib.hid ?_, HBn⟩
          rw [hT, List.length_append, ← bs_append]
          exact HOn.out
        case measure => simp [intOf]; omega
      | false =>
        have HS1 := Lib.hid hs
        clear hs hfit
        go_wp2_with fail
        go_roundw
        case rel =>
          have hT : textL (l.take (k + 1)) = T := by rw [HTK.out, HS1.out]; simp
          refine ⟨k + 1, cv, V, by omega, by go_num, by rw [hT], Lib.hid ?_, HB1⟩
          rw [hT]
          exact HO1.out
        case measure => simp [intOf]; omega
    · have hd : decide ((k : Int) < (l.length : Int)) = false := by simp; omega
      have hcv := conv_own HO.out
      have HT : Hid (strOf (textL (l.take k)) = textOf l) := by show _ = _; rw [List.take_of_length_le (by omega)]; rfl
      go_wp2_with fail
      go_ret
      exact ⟨by rw [← HT.out]; rfl, HB.out⟩
/-- The place of the o-th leaf that is seen; -1: none. -/
def RNthLoop (w : World) (l : List LLeaf) (off : Int) (n i : Value) (wr : World) : Prop :=
  ∃ (k : Nat) (o : Int), k ≤ l.length ∧ i = .int .i64 k ∧ n = .int .i64 o ∧ 0 ≤ o ∧ o ≤ off ∧ o ≤ k ∧ Hid (Below w.heap.size w wr) ∧ Hid (nthFrom 0 l off = nthFrom k (l.drop k) (off - o))
set_option maxRecDepth 100000 in
set_option maxHeartbeats 2000000 in
theorem rnth_any (w : World) (A : Option Addr) (c : Nat) (l : List LLeaf) (off : Int) (h : Reads w w.heap.size 3 A l.length (lcells l)) (hn : l.length ≤ 1000000) (h0 : 0 ≤ off) :
    Calls Tryz.prog 160 #[.slice A l.length c, .int .i64 off] w (CheckPost w (.int .i64 (nthFrom 0 l off))) := by
  have HR := Lib.hid h
  have HS := Lib.hid (fun w x => rseen_any w x)
  clear h
  go_enter Tryz.func160, Tryz.ntmps160
  go_wp2_with fail
  go_loopw [5, 6] (fun n i wr => RNthLoop w l off n i wr) (fun _ i _ => l.length - (intOf i).toNat)
  case atStart => exact ⟨0, 0, by omega, rfl, rfl, by omega, h0, by omega, Below.refl _ _, by show _ = _; rw [Int.sub_zero]; rfl⟩
  case round =>
    obtain ⟨k, o, hk, rfl, rfl, o0, o1, o2, HB, HN⟩ := hrel
    by_cases hkn : k < l.length
    · obtain ⟨ad, rfl, hb, c0, c1, c2⟩ := (HR.out.below HB.out).leaf hkn
      have hlt : (k : Int) < (l.length : Int) := by omega
      have hk0 : (0 : Int) ≤ (k : Int) := by omega
      have hdr := HN.out
      rw [List.drop_eq_getElem_cons hkn, nthFrom] at hdr
      generalize l[k] = x at c0 c1 c2 hdr
      have HD := Lib.hid hdr
      clear hdr HN
      go_wp2_with fail
      refine (HS.out _ x).mono ?_
      rintro e w1 ⟨rfl, hb1⟩
      have HB1 : Hid (Below w.heap.size w w1) := HB.out.trans (hb1.mono HB.out.size)
      clear hb1
      cases hs : seenB x with
      | true =>
        have HD2 : Hid (nthFrom 0 l off = if off - o = 0 then (k : Int) else nthFrom (k + 1) (l.drop (k + 1)) (off - o - 1)) := by show _ = _; rw [HD.out, if_pos hs]
        clear HD hs
        by_cases ho : o = off
        · have HD3 : Hid (nthFrom 0 l off = (k : Int)) := by show _ = _; rw [HD2.out, if_pos (by omega)]
          have g1 : (o == off) = true := by simp [ho]
          clear ho
          go_wp2_with fail
          go_ret
          exact ⟨by rw [HD3.out]; rfl, HB1.out⟩
        · have g0 : (o == off) = false := by simp [ho]
          have HD3 : Hid (nthFrom 0 l off = nthFrom (k + 1) (l.drop (k + 1)) (off - (o + 1))) := by show _ = _; rw [HD2.out, if_neg (by omega)]; congr 1; omega
          have ho1 : o + 1 ≤ off := by omega
          clear ho
          go_wp2_with fail
          go_roundw
          case rel => exact ⟨k + 1, o + 1, by omega, by go_num, rfl, by omega, ho1, by omega, HB1, HD3⟩
          case measure => simp [intOf]; omega
      | false =>
        have HD2 : Hid (nthFrom 0 l off = nthFrom (k + 1) (l.drop (k + 1)) (off - o)) := by show _ = _; rw [HD.out, hs]; rfl
        clear HD hs
        go_wp2_with fail
        go_roundw
        case rel => exact ⟨k + 1, o, by omega, by go_num, rfl, by omega, by omega, by omega, HB1, HD2⟩
        case measure => simp [intOf]; omega
    · have hd : decide ((k : Int) < (l.length : Int)) = false := by simp; omega
      have HF : Hid (nthFrom 0 l off = -1) := by
        have := HN.out
        rw [List.drop_of_length_le (by omega), nthFrom] at this
        exact this
      go_wp2_with fail
      go_ret
      exact ⟨by rw [HF.out]; rfl, HB.out⟩
/-- How many are ahead, by going along. -/
theorem ahead_step {l : List LLeaf} {p : ByteArray} (hr : Rising l) {k : Nat} (h1 : ∀ j (hj : j < l.length), j < k → Op.bytesLess l[j].place.toList p.toList = true) (hk : k ≤ l.length)
    (h2 : ∀ (hk : k < l.length), Op.bytesLess l[k].place.toList p.toList = false) : ahead l p = k := by
  refine ahead_of hk h1 (fun j hj hkj => ?_)
  have hkl : k < l.length := by omega
  rcases Nat.eq_or_lt_of_le hkj with h | h
  · subst h; exact h2 hkl
  · cases hh : Op.bytesLess l[j].place.toList p.toList
    · rfl
    · have := less_trans _ _ _ (rising_lt hr k j hkl hj h) hh
      rw [h2 hkl] at this; cases this
set_option maxRecDepth 100000 in
set_option maxHeartbeats 2000000 in
theorem rahead_any (w : World) (A : Option Addr) (c : Nat) (l : List LLeaf) (p : ByteArray) (h : Reads w w.heap.size 3 A l.length (lcells l)) (hn : l.length ≤ 1000000) (hr : Rising l) :
    Calls Tryz.prog 100 #[.slice A l.length c, .string p] w fun e w' => e = .returned (.int .i64 (ahead l p : Int)) ∧ w' = w := by
  have HR := Lib.hid h
  have HRi := Lib.hid hr
  clear h hr
  go_enter Tryz.func100, Tryz.ntmps100
  go_wp2_with fail
  go_loop [5] (fun i => ∃ k : Nat, k ≤ l.length ∧ i = .int .i64 k ∧ Hid (∀ j (hj : j < l.length), j < k → Op.bytesLess l[j].place.toList p.toList = true)) (fun i => l.length - (intOf i).toNat)
  case atStart => exact ⟨0, by omega, rfl, fun j hj h => by omega⟩
  case round =>
    obtain ⟨k, hk, rfl, H1⟩ := hrel
    by_cases hkn : k < l.length
    · obtain ⟨ad, rfl, hb, c0, c1, c2⟩ := HR.out.leaf hkn
      have hlt : (k : Int) < (l.length : Int) := by omega
      have hk0 : (0 : Int) ≤ (k : Int) := by omega
      cases hless : Op.bytesLess l[k].place.toList p.toList with
      | true =>
        have HS : Hid (∀ j (hj : j < l.length), j < k + 1 → Op.bytesLess l[j].place.toList p.toList = true) := fun j hj hlt => by
          rcases Nat.eq_or_lt_of_le (Nat.le_of_lt_succ hlt) with h | h
          · subst h; exact hless
          · exact H1.out j hj h
        generalize l[k] = x at *
        go_wp2_with fail
        go_round
        case rel => exact ⟨k + 1, by omega, by go_num, HS⟩
        case measure => simp [intOf]; omega
      | false =>
        have HA : Hid (ahead l p = k) := ahead_step HRi.out (fun j hj h => H1.out j hj h) hk (fun _ => hless)
        generalize l[k] = x at *
        go_wp2_with fail
        go_ret
        exact ⟨by rw [HA.out]; rfl, rfl⟩
    · have hd : decide ((k : Int) < (l.length : Int)) = false := by simp; omega
      have HA : Hid (ahead l p = k) := ahead_step HRi.out (fun j hj h => H1.out j hj h) hk (fun h => absurd h hkn)
      go_wp2_with fail
      go_ret
      exact ⟨by rw [HA.out]; rfl, rfl⟩
end Go.Proofs.YtkaccnegdmpofaaGreatDoor
/- The document's set, walked. Conditions: a book that is not too long. -/
namespace Go.Proofs.YtkaccnegdmpofaaGreatDoor
open Go.RowKit
set_option linter.unusedVariables false
/-- A book and a number are given back; the book is of the call's own. -/
def RLeafsPost (w : World) (l : List LLeaf) (k : Int) (e : Ending) (w' : World) : Prop :=
  ∃ V c, e = .returned (.tuple #[.slice V l.length c, .int .i64 k]) ∧ Own w' w.heap.size 95 3 V l.length c (lcells l) ∧ Below w.heap.size w w'
theorem rleafs_none {w w' : World} {k : Int} (hb : Below w.heap.size w w') : RLeafsPost w [] k (.returned (.tuple #[.slice none 0 0, .int .i64 k])) w' := ⟨none, 0, rfl, Own.nil _ _ _ _, hb⟩
set_option maxRecDepth 100000 in
set_option maxHeartbeats 4000000 in
theorem rset_has (w : World) (A : Option Addr) (c : Nat) (l : List LLeaf) (i : Nat) (x : LLeaf) (h : Reads w w.heap.size 3 A l.length (lcells l)) (hn : l.length ≤ 300) (hc : l.length ≤ c) (hcm : c ≤ 9223372036854775807) (hi : i < l.length) :
    Calls Tryz.prog 101 #[.slice A l.length c, .int .i64 i, .bool true, .agg #[.string x.place, .int .i64 x.letter, .bool x.struck]] w (RLeafsPost w (l.set i x) 0) := by
  obtain ⟨p, n, s⟩ := x
  have HB0 : Hid (Below w.heap.size w (w.alloc (.cells #[.string p, .int .i64 n, .bool s] 95))) := (Below.refl _ _).alloc (Nat.le_refl _) _
  have HBK := Lib.hid (Blk.new w 95 #[.string p, .int .i64 n, .bool s])
  have HR := Lib.hid h
  have hsl1 := fun W => run_nilslice InsLeaf.elem A l.length c i (by omega) W
  have hsl2 := fun W => run_tailAt InsLeaf.elem A l.length c (i + 1) (by omega) W
  have hsl2' : ∀ W, (Instr.sliceAt 80 (.slice A l.length c) (some (.int .i64 ((i : Int) + 1))) none none).run Tryz.prog W = .ok (.slice (tailA A c (i + 1) 3) (l.length - (i + 1)) (c - (i + 1))) W := hsl2
  clear hsl2
  have hF1 : Fits (0 + i) 32 := Fits.of_small (by omega) (by decide)
  have hF2 : Fits (i + 1) 32 := Fits.of_small (by omega) (by decide)
  have hF3 : Fits (i + 1 + (l.length - (i + 1))) 32 := Fits.of_small (by omega) (by decide)
  have HT : Hid (Reads w w.heap.size 3 A i ((lcells l).take (i * 3))) := h.head (by omega)
  have HD : Hid (Reads w w.heap.size 3 (tailA A c (i + 1) 3) (l.length - (i + 1)) ((lcells l).drop ((i + 1) * 3))) := h.tail (by omega) hc
  have h1 : OneCells ((lcells l).take (i * 3)) := fun u hu => oneCells_l l u (List.mem_of_mem_take hu)
  have h2 : OneCells ((lcells l).drop ((i + 1) * 3)) := fun u hu => oneCells_l l u (List.mem_of_mem_drop hu)
  have h3 : OneCells (LLeaf.cells ⟨p, n, s⟩) := by intro u hu; simp [LLeaf.cells] at hu; rcases hu with rfl | rfl | rfl <;> rfl
  have q1 : IntKind.i64.wrap ((i : Int) + 1) = (i : Int) + 1 := IntWalk.i64_in _ (by omega)
  have hi0 : (i : Int) < (l.length : Int) := by omega
  clear h
  go_enter Tryz.func101, Tryz.ntmps101
  go_upto_region 5 with (at_builtin; refine wpList_app _ (.tmp 18) (.tmp 21) rfl rfl InsLeaf.elem rfl rfl (Own.nil _ (w.heap.size + 1) _ 3) (HT.out.below HB0.out) h1 hF1 (by simp) ?_; intro V1 c1 w1 hO1 hL1 hG1)
  rw [Nat.zero_add, List.nil_append] at hO1
  have HO1 := Lib.hid hO1
  have HB1 : Hid (Below w.heap.size w w1) := HB0.out.trans (hL1.below (B := w.heap.size) (by simp) (by simp [ob]))
  have hbk1 := hL1.blk HBK.out (by simp [ob])
  have HBK1 := Lib.hid hbk1
  have b0 : w1.cell? ⟨w.heap.size, 0, none⟩ = some (.string p) := by rw [hbk1.cell]; rfl
  have b1 : w1.cell? ⟨w.heap.size, 1, none⟩ = some (.int .i64 n) := by rw [hbk1.cell]; rfl
  have b2 : w1.cell? ⟨w.heap.size, 2, none⟩ = some (.bool s) := by rw [hbk1.cell]; rfl
  have hz1 : w.heap.size + 1 ≤ w1.heap.size := hbk1.lt
  have HRX := Lib.hid (fun W : World => Reads.row W 95 #[.string p, .int .i64 n, .bool s])
  clear hO1 hL1 hG1 hbk1
  go_upto_region 6 with (at_builtin; refine wpList_app _ (.tmp 23) (.tmp 25) rfl rfl InsLeaf.elem rfl rfl (HO1.out.alloc _) (HRX.out w1) h3 hF2 (by simp <;> omega) ?_; intro V2 c2 w2 hO2 hL2 hG2)
  have HO2 := Lib.hid hO2
  have HB2 : Hid (Below w.heap.size w w2) := (HB1.out.alloc HB1.out.size _).trans (hL2.below (by simp <;> omega) (fun g hg => by have := (HO1.out.lt g hg).1; omega))
  have hz2 : w.heap.size + 1 ≤ w2.heap.size := by have := hL2.size; simp at this; omega
  clear hO2 hL2 hG2 b0 b1 b2
  go_wp2_with (at_builtin; refine wpList_app _ (.tmp 30) (.tmp 33) rfl rfl InsLeaf.elem rfl rfl HO2.out (HD.out.below HB2.out) h2 hF3 hz2 ?_; intro V3 c3 w3 hO3 hL3 hG3)
  go_ret2
  have hlen : (l.set i ⟨p, n, s⟩).length = i + 1 + (l.length - (i + 1)) := by rw [List.length_set]; omega
  have hcl : lcells (l.set i ⟨p, n, s⟩) = ((lcells l).take (i * 3) ++ LLeaf.cells ⟨p, n, s⟩) ++ (lcells l).drop ((i + 1) * 3) := by
    rw [lcells_take, lcells_drop, List.set_eq_take_append_cons_drop, if_pos hi]
    simp [lcells]
  refine ⟨V3, c3, by rw [hlen]; simp, ?_, HB2.out.trans (hL3.below HB2.out.size (fun g hg => by have := (HO2.out.lt g hg).1; omega))⟩
  rw [hlen, hcl]
  have := hO3.mono (show w.heap.size ≤ w.heap.size + 1 by omega)
  exact this
set_option maxRecDepth 100000 in
set_option maxHeartbeats 4000000 in
theorem rset_new (w : World) (A : Option Addr) (c : Nat) (l : List LLeaf) (i : Nat) (x : LLeaf) (h : Reads w w.heap.size 3 A l.length (lcells l)) (hn : l.length ≤ 300) (hc : l.length ≤ c) (hcm : c ≤ 9223372036854775807) (hi : i ≤ l.length) :
    Calls Tryz.prog 101 #[.slice A l.length c, .int .i64 i, .bool false, .agg #[.string x.place, .int .i64 x.letter, .bool x.struck]] w (RLeafsPost w (putRes l i x) (putErr l)) := by
  obtain ⟨p, n, s⟩ := x
  by_cases hf : 300 ≤ l.length
  · have HE : Hid (putErr l = 4 ∧ putRes l i ⟨p, n, s⟩ = []) := ⟨if_pos hf, if_pos hf⟩
    go_enter Tryz.func101, Tryz.ntmps101
    go_wp2_with fail
    go_ret2
    rw [HE.out.1, HE.out.2]
    exact rleafs_none ((Below.refl _ _).alloc (Nat.le_refl _) _)
  have HE : Hid (putErr l = 0 ∧ putRes l i ⟨p, n, s⟩ = bookPut l i ⟨p, n, s⟩) := ⟨if_neg hf, if_neg hf⟩
  have HB0 : Hid (Below w.heap.size w (w.alloc (.cells #[.string p, .int .i64 n, .bool s] 95))) := (Below.refl _ _).alloc (Nat.le_refl _) _
  have HBK := Lib.hid (Blk.new w 95 #[.string p, .int .i64 n, .bool s])
  have HR := Lib.hid h
  have hsl1 := fun W => run_nilslice InsLeaf.elem A l.length c i (by omega) W
  have hsl2 := fun W => run_tailAt InsLeaf.elem A l.length c i (by omega) W
  have hF1 : Fits (0 + i) 32 := Fits.of_small (by omega) (by decide)
  have hF2 : Fits (i + 1) 32 := Fits.of_small (by omega) (by decide)
  have hF3 : Fits (i + 1 + (l.length - i)) 32 := Fits.of_small (by omega) (by decide)
  have HT : Hid (Reads w w.heap.size 3 A i ((lcells l).take (i * 3))) := h.head (by omega)
  have HD : Hid (Reads w w.heap.size 3 (tailA A c i 3) (l.length - i) ((lcells l).drop (i * 3))) := h.tail (by omega) hc
  have h1 : OneCells ((lcells l).take (i * 3)) := fun u hu => oneCells_l l u (List.mem_of_mem_take hu)
  have h2 : OneCells ((lcells l).drop (i * 3)) := fun u hu => oneCells_l l u (List.mem_of_mem_drop hu)
  have h3 : OneCells (LLeaf.cells ⟨p, n, s⟩) := by intro u hu; simp [LLeaf.cells] at hu; rcases hu with rfl | rfl | rfl <;> rfl
  have hi0 : (i : Int) ≤ (l.length : Int) := by omega
  clear h
  go_enter Tryz.func101, Tryz.ntmps101
  go_upto_region 5 with (at_builtin; refine wpList_app _ (.tmp 18) (.tmp 21) rfl rfl InsLeaf.elem rfl rfl (Own.nil _ (w.heap.size + 1) _ 3) (HT.out.below HB0.out) h1 hF1 (by simp) ?_; intro V1 c1 w1 hO1 hL1 hG1)
  rw [Nat.zero_add, List.nil_append] at hO1
  have HO1 := Lib.hid hO1
  have HB1 : Hid (Below w.heap.size w w1) := HB0.out.trans (hL1.below (B := w.heap.size) (by simp) (by simp [ob]))
  have hbk1 := hL1.blk HBK.out (by simp [ob])
  have HBK1 := Lib.hid hbk1
  have b0 : w1.cell? ⟨w.heap.size, 0, none⟩ = some (.string p) := by rw [hbk1.cell]; rfl
  have b1 : w1.cell? ⟨w.heap.size, 1, none⟩ = some (.int .i64 n) := by rw [hbk1.cell]; rfl
  have b2 : w1.cell? ⟨w.heap.size, 2, none⟩ = some (.bool s) := by rw [hbk1.cell]; rfl
  have hz1 : w.heap.size + 1 ≤ w1.heap.size := hbk1.lt
  have HRX := Lib.hid (fun W : World => Reads.row W 95 #[.string p, .int .i64 n, .bool s])
  clear hO1 hL1 hG1 hbk1
  go_upto_region 6 with (at_builtin; refine wpList_app _ (.tmp 23) (.tmp 25) rfl rfl InsLeaf.elem rfl rfl (HO1.out.alloc _) (HRX.out w1) h3 hF2 (by simp <;> omega) ?_; intro V2 c2 w2 hO2 hL2 hG2)
  have HO2 := Lib.hid hO2
  have HB2 : Hid (Below w.heap.size w w2) := (HB1.out.alloc HB1.out.size _).trans (hL2.below (by simp <;> omega) (fun g hg => by have := (HO1.out.lt g hg).1; omega))
  have hz2 : w.heap.size + 1 ≤ w2.heap.size := by have := hL2.size; simp at this; omega
  clear hO2 hL2 hG2 b0 b1 b2
  go_wp2_with (at_builtin; refine wpList_app _ (.tmp 30) (.tmp 33) rfl rfl InsLeaf.elem rfl rfl HO2.out (HD.out.below HB2.out) h2 hF3 hz2 ?_; intro V3 c3 w3 hO3 hL3 hG3)
  go_ret2
  rw [HE.out.1, HE.out.2]
  have hlen : (bookPut l i ⟨p, n, s⟩).length = i + 1 + (l.length - i) := by rw [bookPut_len _ _ _ hi]; omega
  have hcl : lcells (bookPut l i ⟨p, n, s⟩) = ((lcells l).take (i * 3) ++ LLeaf.cells ⟨p, n, s⟩) ++ (lcells l).drop (i * 3) := (lcells_put l i ⟨p, n, s⟩).symm
  refine ⟨V3, c3, by rw [hlen]; simp, ?_, HB2.out.trans (hL3.below HB2.out.size (fun g hg => by have := (HO2.out.lt g hg).1; omega))⟩
  rw [hlen, hcl]
  have := hO3.mono (show w.heap.size ≤ w.heap.size + 1 by omega)
  exact this
end Go.Proofs.YtkaccnegdmpofaaGreatDoor
/- The document's Write, Strike, walked. Conditions: a book that is right. -/
namespace Go.Proofs.YtkaccnegdmpofaaGreatDoor
open Go.RowKit
set_option linter.unusedVariables false
/-- What is wrong with a letter at a place, of a book that is right. -/
def rwErr (l : List LLeaf) (p : ByteArray) (n : Int) : Int :=
  if letterB n = false then 1 else if hasAt l p = false then putErr l else if (leafAt l p).letter ≠ 0 ∧ (leafAt l p).letter ≠ n then 7 else 0
theorem writeErr_ready {l : List LLeaf} {p : ByteArray} (h : bookReady l p = 0) (n : Int) : writeErr l p n = rwErr l p n := by unfold writeErr rwErr; rw [if_neg (fun hh => hh h)]
def rsErr (l : List LLeaf) (p : ByteArray) : Int := if hasAt l p = false then putErr l else 0
theorem strikeErr_ready {l : List LLeaf} {p : ByteArray} (h : bookReady l p = 0) : strikeErr l p = rsErr l p := by unfold strikeErr rsErr; rw [if_neg (fun hh => hh h)]
theorem leafAt_has {l : List LLeaf} {p : ByteArray} (h : hasAt l p = true) : ∃ hi : ahead l p < l.length, leafAt l p = l[ahead l p] ∧ (leafAt l p).place = p := by
  have hlt := hasAt_lt h
  have hla : leafAt l p = l[ahead l p] := by unfold leafAt; simp [List.getD, hlt]
  refine ⟨hlt, hla, ?_⟩
  unfold hasAt at h
  rw [List.getElem?_eq_getElem hlt] at h
  rw [hla]
  exact same_toList.1 (by simpa using h)
set_option maxRecDepth 100000 in
set_option maxHeartbeats 2000000 in
theorem rwrite_any (w : World) (A : Option Addr) (c : Nat) (l : List LLeaf) (p : ByteArray) (n : Int) (h : Reads w w.heap.size 3 A l.length (lcells l)) (ok : BookOk l) (hc : l.length ≤ c) (hcm : c ≤ 9223372036854775807) :
    Calls Tryz.prog 49 #[.slice A l.length c, .string p, .int .i64 n] w (RLeafsPost w (giveL (rwErr l p n) (writeRes l p n)) (rwErr l p n)) := by
  have HL := Lib.hid (fun w => rletter_any w n)
  have HA := Lib.hid (fun w (h : Reads w w.heap.size 3 A l.length (lcells l)) => rahead_any w A c l p h (by have := ok.few; omega) ok.rising)
  have hfew := ok.few
  have HR := Lib.hid h
  clear ok
  by_cases hl : letterB n = true
  · have HLt := Lib.hid hl
    cases hh : hasAt l p with
    | false =>
      have hal := ahead_le l p
      have HS := Lib.hid (fun W (h : Reads W W.heap.size 3 A l.length (lcells l)) => rset_new W A c l (ahead l p) ⟨p, n, false⟩ h hfew hc hcm hal)
      have HW : Hid (rwErr l p n = putErr l ∧ giveL (rwErr l p n) (writeRes l p n) = putRes l (ahead l p) ⟨p, n, false⟩) := by
        have h1 : rwErr l p n = putErr l := by unfold rwErr; rw [if_neg (by rw [hl]; decide), if_pos hh]
        exact ⟨h1, by rw [h1, putRes_give, writeRes, if_neg (by rw [hh]; decide)]⟩
      by_cases hlt : ahead l p < l.length
      · obtain ⟨ad, hA, hb, c0, _, _⟩ := h.leaf hlt
        have hne : (l[ahead l p].place.toList == p.toList) = false := by
          unfold hasAt at hh
          rw [List.getElem?_eq_getElem hlt] at hh
          exact hh
        have i0 : (0 : Int) ≤ (ahead l p : Int) := by omega
        have i1 : (ahead l p : Int) < (l.length : Int) := by omega
        clear hl hh h
        subst hA
        generalize l[ahead l p].place = q at *
        go_enter Tryz.func49, Tryz.ntmps49
        go_wp2_with fail
        refine (HL.out _).mono ?_
        rintro e w1 ⟨rfl, rfl⟩
        rw [HLt.out]
        go_wp2_with fail
        refine (HA.out _ HR.out).mono ?_
        rintro e w1 ⟨rfl, rfl⟩
        have HRA := Lib.hid (HR.out.alloc (Nat.le_refl _) (.cells #[.string p, .int .i64 n, .bool false] 95))
        go_wp2_with fail
        refine (HS.out _ (HRA.out.more (by simp))).mono ?_
        rintro e w3 ⟨V, cV, rfl, hO3, hb3⟩
        have HO3 := Lib.hid hO3
        have HB3 := Lib.hid hb3
        clear hb3 hO3
        go_wp2_with fail
        go_ret2
        rw [HW.out.2, HW.out.1]
        exact ⟨V, cV, rfl, HO3.out.mono (by simp), ((Below.refl _ _).alloc (Nat.le_refl _) _).trans (HB3.out.mono (by simp))⟩
      · have d1 : decide ((ahead l p : Int) < (l.length : Int)) = false := decide_eq_false (by omega)
        clear hl hh h
        go_enter Tryz.func49, Tryz.ntmps49
        go_wp2_with fail
        refine (HL.out _).mono ?_
        rintro e w1 ⟨rfl, rfl⟩
        rw [HLt.out]
        go_wp2_with fail
        refine (HA.out _ HR.out).mono ?_
        rintro e w1 ⟨rfl, rfl⟩
        have HRA := Lib.hid (HR.out.alloc (Nat.le_refl _) (.cells #[.string p, .int .i64 n, .bool false] 95))
        go_wp2_with fail
        refine (HS.out _ (HRA.out.more (by simp))).mono ?_
        rintro e w3 ⟨V, cV, rfl, hO3, hb3⟩
        have HO3 := Lib.hid hO3
        have HB3 := Lib.hid hb3
        clear hb3 hO3
        go_wp2_with fail
        go_ret2
        rw [HW.out.2, HW.out.1]
        exact ⟨V, cV, rfl, HO3.out.mono (by simp), ((Below.refl _ _).alloc (Nat.le_refl _) _).trans (HB3.out.mono (by simp))⟩
    | true =>
      obtain ⟨hlt, hla, hpl⟩ := leafAt_has hh
      obtain ⟨ad, hA, hb, c0, c1, c2⟩ := h.leaf hlt
      rw [← hla] at c0 c1 c2
      rw [hpl] at c0
      have HWR : Hid (writeRes l p n = l.set (ahead l p) ⟨p, n, (leafAt l p).struck⟩) := by show _ = _; rw [writeRes, if_pos hh]; unfold LLeaf.write; rw [hpl]
      have hwe : rwErr l p n = if (leafAt l p).letter ≠ 0 ∧ (leafAt l p).letter ≠ n then 7 else 0 := by unfold rwErr; rw [if_neg (by rw [hl]; decide), if_neg (by rw [hh]; decide)]
      have HS := Lib.hid (fun W b (h : Reads W W.heap.size 3 A l.length (lcells l)) => rset_has W A c l (ahead l p) ⟨p, n, b⟩ h hfew hc hcm hlt)
      have i0 : (0 : Int) ≤ (ahead l p : Int) := by omega
      have i1 : (ahead l p : Int) < (l.length : Int) := by omega
      have b0 : (p.toList == p.toList) = true := by simp
      have hadb : (ad.add (ahead l p * 3)).block < w.heap.size := by rw [block_of_add]; exact hb
      clear hl hh h hla hpl
      subst hA
      generalize leafAt l p = x at *
      have d1 : ∀ o, (w.alloc o).cell? ⟨(ad.add (ahead l p * 3)).block, (ad.add (ahead l p * 3)).off + 1, none⟩ = some (.int .i64 x.letter) := fun o => (World.cell?_alloc_lt w o _ (by exact hadb)).trans c1
      have d2 : ∀ o, (w.alloc o).cell? ⟨(ad.add (ahead l p * 3)).block, (ad.add (ahead l p * 3)).off + 2, none⟩ = some (.bool x.struck) := fun o => (World.cell?_alloc_lt w o _ (by exact hadb)).trans c2
      by_cases hbad : x.letter ≠ 0 ∧ x.letter ≠ n
      · have HW : Hid (rwErr l p n = 7) := by show _ = _; rw [hwe, if_pos hbad]
        have g1 : (x.letter != 0) = true := by simpa using hbad.1
        have g2 : (x.letter != n) = true := by simpa using hbad.2
        clear hwe hbad
        go_enter Tryz.func49, Tryz.ntmps49
        go_wp2_with fail
        refine (HL.out _).mono ?_
        rintro e w1 ⟨rfl, rfl⟩
        rw [HLt.out]
        go_wp2_with fail
        refine (HA.out _ HR.out).mono ?_
        rintro e w1 ⟨rfl, rfl⟩
        go_wp2_with fail
        go_ret2
        rw [HW.out, giveL_bad (by decide)]
        exact rleafs_none ((Below.refl _ _).alloc (Nat.le_refl _) _)
      · have HW : Hid (rwErr l p n = 0) := by show _ = _; rw [hwe, if_neg hbad]
        have HG := Lib.hid hbad
        clear hwe hbad
        by_cases h0 : x.letter = 0
        · have g1 : (x.letter != 0) = false := by simp [h0]
          clear h0
          go_enter Tryz.func49, Tryz.ntmps49
          go_wp2_with fail
          refine (HL.out _).mono ?_
          rintro e w1 ⟨rfl, rfl⟩
          rw [HLt.out]
          go_wp2_with fail
          refine (HA.out _ HR.out).mono ?_
          rintro e w1 ⟨rfl, rfl⟩
          have HRA := Lib.hid (HR.out.alloc (Nat.le_refl _) (.cells #[.string p, .int .i64 n, .bool x.struck] 95))
          go_wp2_with fail
          refine (HS.out _ _ (HRA.out.more (by simp))).mono ?_
          rintro e w3 ⟨V, cV, rfl, hO3, hb3⟩
          have HO3 := Lib.hid hO3
          have HB3 := Lib.hid hb3
          clear hb3 hO3
          go_wp2_with fail
          go_ret2
          rw [HW.out, giveL, if_pos rfl, HWR.out]
          exact ⟨V, cV, by rw [List.length_set]; rfl, HO3.out.mono (by simp), ((Below.refl _ _).alloc (Nat.le_refl _) _).trans (HB3.out.mono (by simp))⟩
        · have g1 : (x.letter != 0) = true := by simpa using h0
          have g2 : (x.letter != n) = false := by
            cases hc : (x.letter != n)
            · rfl
            · exact absurd ⟨h0, by simpa using hc⟩ HG.out
          clear h0
          go_enter Tryz.func49, Tryz.ntmps49
          go_wp2_with fail
          refine (HL.out _).mono ?_
          rintro e w1 ⟨rfl, rfl⟩
          rw [HLt.out]
          go_wp2_with fail
          refine (HA.out _ HR.out).mono ?_
          rintro e w1 ⟨rfl, rfl⟩
          have HRA := Lib.hid (HR.out.alloc (Nat.le_refl _) (.cells #[.string p, .int .i64 n, .bool x.struck] 95))
          go_wp2_with fail
          refine (HS.out _ _ (HRA.out.more (by simp))).mono ?_
          rintro e w3 ⟨V, cV, rfl, hO3, hb3⟩
          have HO3 := Lib.hid hO3
          have HB3 := Lib.hid hb3
          clear hb3 hO3
          go_wp2_with fail
          go_ret2
          rw [HW.out, giveL, if_pos rfl, HWR.out]
          exact ⟨V, cV, by rw [List.length_set]; rfl, HO3.out.mono (by simp), ((Below.refl _ _).alloc (Nat.le_refl _) _).trans (HB3.out.mono (by simp))⟩
  · have hl2 : letterB n = false := by simpa using hl
    have HLt := Lib.hid hl2
    have HW : Hid (rwErr l p n = 1) := by show _ = _; unfold rwErr; rw [if_pos hl2]
    clear hl hl2 h
    go_enter Tryz.func49, Tryz.ntmps49
    go_wp2_with fail
    refine (HL.out _).mono ?_
    rintro e w1' ⟨rfl, rfl⟩
    rw [HLt.out]
    go_wp2_with fail
    go_ret2
    rw [HW.out, giveL_bad (by decide)]
    exact rleafs_none (Below.refl _ _)
set_option maxRecDepth 100000 in
set_option maxHeartbeats 2000000 in
theorem rstrike_any (w : World) (A : Option Addr) (c : Nat) (l : List LLeaf) (p : ByteArray) (h : Reads w w.heap.size 3 A l.length (lcells l)) (ok : BookOk l) (hc : l.length ≤ c) (hcm : c ≤ 9223372036854775807) :
    Calls Tryz.prog 50 #[.slice A l.length c, .string p] w (RLeafsPost w (giveL (rsErr l p) (strikeRes l p)) (rsErr l p)) := by
  have HA := Lib.hid (fun w (h : Reads w w.heap.size 3 A l.length (lcells l)) => rahead_any w A c l p h (by have := ok.few; omega) ok.rising)
  have hfew := ok.few
  have HR := Lib.hid h
  clear ok
  cases hh : hasAt l p with
  | false =>
    have hal := ahead_le l p
    have HS := Lib.hid (fun W (h : Reads W W.heap.size 3 A l.length (lcells l)) => rset_new W A c l (ahead l p) ⟨p, 0, true⟩ h hfew hc hcm hal)
    have HW : Hid (rsErr l p = putErr l ∧ giveL (rsErr l p) (strikeRes l p) = putRes l (ahead l p) ⟨p, 0, true⟩) := by
      have h1 : rsErr l p = putErr l := by unfold rsErr; rw [if_pos hh]
      exact ⟨h1, by rw [h1, putRes_give, strikeRes, if_neg (by rw [hh]; decide)]⟩
    by_cases hlt : ahead l p < l.length
    · obtain ⟨ad, hA, hb, c0, _, _⟩ := h.leaf hlt
      have hne : (l[ahead l p].place.toList == p.toList) = false := by
        unfold hasAt at hh
        rw [List.getElem?_eq_getElem hlt] at hh
        exact hh
      have i0 : (0 : Int) ≤ (ahead l p : Int) := by omega
      have i1 : (ahead l p : Int) < (l.length : Int) := by omega
      clear hh h
      subst hA
      generalize l[ahead l p].place = q at *
      go_enter Tryz.func50, Tryz.ntmps50
      go_wp2_with fail
      refine (HA.out _ HR.out).mono ?_
      rintro e w1 ⟨rfl, rfl⟩
      have HRA := Lib.hid (HR.out.alloc (Nat.le_refl _) (.cells #[.string p, .int .i64 0, .bool true] 95))
      go_wp2_with fail
      refine (HS.out _ (HRA.out.more (by simp))).mono ?_
      rintro e w3 ⟨V, cV, rfl, hO3, hb3⟩
      have HO3 := Lib.hid hO3
      have HB3 := Lib.hid hb3
      clear hb3 hO3
      go_wp2_with fail
      go_ret2
      rw [HW.out.2, HW.out.1]
      exact ⟨V, cV, rfl, HO3.out.mono (by simp), ((Below.refl _ _).alloc (Nat.le_refl _) _).trans (HB3.out.mono (by simp))⟩
    · have d1 : decide ((ahead l p : Int) < (l.length : Int)) = false := decide_eq_false (by omega)
      clear hh h
      go_enter Tryz.func50, Tryz.ntmps50
      go_wp2_with fail
      refine (HA.out _ HR.out).mono ?_
      rintro e w1 ⟨rfl, rfl⟩
      have HRA := Lib.hid (HR.out.alloc (Nat.le_refl _) (.cells #[.string p, .int .i64 0, .bool true] 95))
      go_wp2_with fail
      refine (HS.out _ (HRA.out.more (by simp))).mono ?_
      rintro e w3 ⟨V, cV, rfl, hO3, hb3⟩
      have HO3 := Lib.hid hO3
      have HB3 := Lib.hid hb3
      clear hb3 hO3
      go_wp2_with fail
      go_ret2
      rw [HW.out.2, HW.out.1]
      exact ⟨V, cV, rfl, HO3.out.mono (by simp), ((Below.refl _ _).alloc (Nat.le_refl _) _).trans (HB3.out.mono (by simp))⟩
  | true =>
    obtain ⟨hlt, hla, hpl⟩ := leafAt_has hh
    obtain ⟨ad, hA, hb, c0, c1, c2⟩ := h.leaf hlt
    rw [← hla] at c0 c1 c2
    rw [hpl] at c0
    have HWR : Hid (strikeRes l p = l.set (ahead l p) ⟨p, (leafAt l p).letter, true⟩) := by show _ = _; rw [strikeRes, if_pos hh]; unfold LLeaf.strike; rw [hpl]
    have HW : Hid (rsErr l p = 0) := by show _ = _; unfold rsErr; rw [if_neg (by rw [hh]; decide)]
    have HS := Lib.hid (fun W b (h : Reads W W.heap.size 3 A l.length (lcells l)) => rset_has W A c l (ahead l p) ⟨p, b, true⟩ h hfew hc hcm hlt)
    have i0 : (0 : Int) ≤ (ahead l p : Int) := by omega
    have i1 : (ahead l p : Int) < (l.length : Int) := by omega
    have b0 : (p.toList == p.toList) = true := by simp
    have hadb : (ad.add (ahead l p * 3)).block < w.heap.size := by rw [block_of_add]; exact hb
    clear hh h hla hpl
    subst hA
    generalize leafAt l p = x at *
    have d1 : ∀ o, (w.alloc o).cell? ⟨(ad.add (ahead l p * 3)).block, (ad.add (ahead l p * 3)).off + 1, none⟩ = some (.int .i64 x.letter) := fun o => (World.cell?_alloc_lt w o _ (by exact hadb)).trans c1
    go_enter Tryz.func50, Tryz.ntmps50
    go_wp2_with fail
    refine (HA.out _ HR.out).mono ?_
    rintro e w1 ⟨rfl, rfl⟩
    have HRA := Lib.hid (HR.out.alloc (Nat.le_refl _) (.cells #[.string p, .int .i64 x.letter, .bool true] 95))
    go_wp2_with fail
    refine (HS.out _ _ (HRA.out.more (by simp))).mono ?_
    rintro e w3 ⟨V, cV, rfl, hO3, hb3⟩
    have HO3 := Lib.hid hO3
    have HB3 := Lib.hid hb3
    clear hb3 hO3
    go_wp2_with fail
    go_ret2
    rw [HW.out, giveL, if_pos rfl, HWR.out]
    exact ⟨V, cV, by rw [List.length_set]; rfl, HO3.out.mono (by simp), ((Below.refl _ _).alloc (Nat.le_refl _) _).trans (HB3.out.mono (by simp))⟩
end Go.Proofs.YtkaccnegdmpofaaGreatDoor
/- The document's In, walked. Conditions: few dots. -/
namespace Go.Proofs.YtkaccnegdmpofaaGreatDoor
open Go.RowKit MarkJoin
set_option linter.unusedVariables false
def RInLoop (w : World) (l : List LDot) (d : LDot) (i : Value) (wr : World) : Prop :=
  ∃ k : Nat, k ≤ l.length ∧ i = .int .i64 k ∧ Hid (Below w.heap.size w wr) ∧ Hid (∀ j (hj : j < l.length), j < k → l[j] ≠ d)
set_option maxRecDepth 100000 in
set_option maxHeartbeats 2000000 in
theorem rin_any (w : World) (A : Option Addr) (c : Nat) (l : List LDot) (d : LDot) (h : Reads w w.heap.size 2 A l.length (dcells l)) (hn : l.length ≤ 1000) :
    Calls Tryz.prog 102 #[.slice A l.length c, .agg #[.int .i64 d.who, .int .i64 d.n]] w (CheckPost w (.bool (inD l d))) := by
  obtain ⟨W0, hW0⟩ : ∃ W0, W0 = w.alloc (.cells #[.int .i64 d.who, .int .i64 d.n] 45) := ⟨_, rfl⟩
  have HSZ : Hid (w.heap.size < W0.heap.size) := by show _ < _; rw [hW0]; simp
  have HBW : Hid (Below w.heap.size w W0) := by show Below _ _ _; rw [hW0]; exact (Below.refl _ _).alloc (Nat.le_refl _) _
  have HR : Hid (∀ W, Below W0.heap.size W0 W → Reads W W.heap.size 2 A l.length (dcells l)) := fun W hb => ((((h.below HBW.out).more HBW.out.size).below hb).more hb.size)
  have HBK : Hid (∀ W, Below W0.heap.size W0 W → W.cell? ⟨w.heap.size, 0, none⟩ = some (.int .i64 d.who) ∧ W.cell? ⟨w.heap.size, 1, none⟩ = some (.int .i64 d.n)) := fun W hb => by
    have h0 : Blk W0 w.heap.size 45 #[.int .i64 d.who, .int .i64 d.n] := by rw [hW0]; exact Blk.new w _ _
    have h1 := h0.below hb HSZ.out
    exact ⟨by rw [h1.cell]; rfl, by rw [h1.cell]; rfl⟩
  clear h
  obtain ⟨d0, d1⟩ := d
  simp only at hW0 HBK
  go_enter Tryz.func102, Tryz.ntmps102
  go_wp2_with fail
  rw [← hW0]
  clear hW0
  go_loopw [5] (fun i wr => RInLoop W0 l ⟨d0, d1⟩ i wr) (fun i _ => l.length - (intOf i).toNat)
  case atStart => exact ⟨0, by omega, rfl, Below.refl _ _, fun j hj h => by omega⟩
  case round =>
    obtain ⟨k, hk, rfl, HB, HN⟩ := hrel
    by_cases hkn : k < l.length
    · obtain ⟨ad, rfl, hb, c0, c1⟩ := (HR.out _ HB.out).dot hkn
      obtain ⟨b0, b1⟩ := HBK.out _ HB.out
      have hlt : (k : Int) < (l.length : Int) := by omega
      have hk0 : (0 : Int) ≤ (k : Int) := by omega
      have HX : Hid (∀ x, x = l[k] → ∀ j (hj : j < l.length), j < k + 1 → (x ≠ ⟨d0, d1⟩) → l[j] ≠ ⟨d0, d1⟩) := fun x hx j hj hjk hne => by
        rcases Nat.eq_or_lt_of_le (Nat.le_of_lt_succ hjk) with h | h
        · subst h; rw [← hx]; exact hne
        · exact HN.out j hj h
      have HM : Hid (∀ x, x = l[k] → x = ⟨d0, d1⟩ → inD l ⟨d0, d1⟩ = true) := fun x hx he => inD_iff.2 (by rw [← he, hx]; exact List.getElem_mem hkn)
      generalize hlk : l[k] = x at *
      have HX2 := Lib.hid (HX.out x rfl)
      have HM2 := Lib.hid (HM.out x rfl)
      clear HX HM hlk
      obtain ⟨x0, x1⟩ := x
      simp only at c0 c1
      have heq := fun W => eq_dot W x0 d0 x1 d1
      by_cases hx : (⟨x0, x1⟩ : LDot) = ⟨d0, d1⟩
      · have g1 : (x0 == d0 && (x1 == d1)) = true := by rw [dot_same]; exact decide_eq_true hx
        have HT := Lib.hid (HM2.out hx)
        clear hx
        go_wp2_with fail
        go_quiet (fail)
        go_wp2_with fail
        go_ret
        exact ⟨by rw [HT.out]; rfl, HBW.out.trans ((below_drewN HB.out _).mono HBW.out.size)⟩
      · have g1 : (x0 == d0 && (x1 == d1)) = false := by rw [dot_same]; exact decide_eq_false hx
        have HT : Hid (∀ j (hj : j < l.length), j < k + 1 → l[j] ≠ ⟨d0, d1⟩) := fun j hj hjk => HX2.out j hj hjk hx
        clear hx
        go_wp2_with fail
        go_quiet (fail)
        go_wp2_with fail
        go_roundw
        case rel => exact ⟨k + 1, by omega, by go_num, below_drewN HB.out _, HT⟩
        case measure => simp [intOf]; omega
    · have hd : decide ((k : Int) < (l.length : Int)) = false := by simp; omega
      have HT : Hid (inD l ⟨d0, d1⟩ = false) := by
        show _ = _
        cases h : inD l ⟨d0, d1⟩
        · rfl
        · obtain ⟨j, hj, e⟩ := List.getElem_of_mem (inD_iff.1 h)
          exact absurd e (HN.out j hj (by omega))
      go_wp2_with fail
      go_ret
      exact ⟨by rw [HT.out]; rfl, HBW.out.trans (HB.out.mono HBW.out.size)⟩
end Go.Proofs.YtkaccnegdmpofaaGreatDoor
/- The reference's document in memory: which blocks it turns, which it only reads. Plain lemmas. Conditions: none. -/
namespace Go.Proofs.YtkaccnegdmpofaaGreatDoor
open Go.RowKit
set_option linter.unusedVariables false
/-- Where the parts of the reference's document lie. -/
structure RLay where
  a1 : Option Addr
  c1 : Nat
  a2 : Option Addr
  c2 : Nat
  a3 : Option Addr
  c3 : Nat
  a4 : Option Addr
  c4 : Nat
  ys : List OpAt
def RLay.cells (D : RLay) (st : LDoc) : Array Value := #[.slice D.a1 st.book.length D.c1, .slice D.a2 st.marks.length D.c2, .slice D.a3 st.known.length D.c3, .slice D.a4 st.ops.length D.c4]
/-- A row that is read alone: its block is one of S, or lies below B, and is none of T. -/
structure Seat (w : World) (B : Nat) (S T : List Nat) (size : Nat) (A : Option Addr) (n : Nat) (xs : List Value) : Prop where
  row : Reads w w.heap.size size A n xs
  in_ : 0 < n → ∀ g ∈ ob A, g < B ∨ g ∈ S
  out : 0 < n → ∀ g ∈ ob A, g ∉ T
namespace Seat
variable {w w' : World} {B size n : Nat} {S S' T T' U : List Nat} {A : Option Addr} {xs : List Value}
theorem only (h : Seat w B S T size A n xs) (ho : Only U w w') (hU : ∀ g ∈ U, B ≤ g ∧ g ∉ S) : Seat w' B S T size A n xs :=
  ⟨h.row.only ho fun hn g hg hm => by
    obtain ⟨h1, h2⟩ := hU g hm
    rcases h.in_ hn g hg with h3 | h3
    · omega
    · exact h2 h3, h.in_, h.out⟩
/-- What may turn has turned. -/
theorem turned (h : Seat w B S T size A n xs) (ho : Only U w w') (hU : ∀ g ∈ U, g ∈ T ∨ w.heap.size ≤ g) : Seat w' B S T size A n xs :=
  ⟨h.row.only ho fun hn g hg hm => by
    obtain ⟨ad, e, hb, _⟩ := h.row.2 hn
    rcases hU g hm with h3 | h3
    · exact h.out hn g hg h3
    · rw [e] at hg; simp [ob] at hg; omega, h.in_, h.out⟩
theorem lt (h : Seat w B S T size A n xs) (hn : 0 < n) : ∀ g ∈ ob A, g < w.heap.size := fun g hg => by
  obtain ⟨ad, e, hb, _⟩ := h.row.2 hn
  rw [e] at hg; simp [ob] at hg; omega
theorem more (h : Seat w B S T size A n xs) (hS : ∀ g ∈ S, g ∈ S') (hT : ∀ g ∈ T', g ∈ T ∨ w.heap.size ≤ g) : Seat w B S' T' size A n xs :=
  ⟨h.row, fun hn g hg => (h.in_ hn g hg).imp id (hS g), fun hn g hg hm => by
    rcases hT g hm with h1 | h1
    · exact h.out hn g hg h1
    · have := h.lt hn g hg; omega⟩
theorem of_own {N c : Nat} {e : TypeId} (h : Own w N e size A n c xs) (hS : ∀ g ∈ ob A, g ∈ S) (hT : ∀ g ∈ T, g < N) : Seat w B S T size A n xs :=
  ⟨h.reads, fun _ g hg => .inr (hS g hg), fun _ g hg hm => by have := (h.lt g hg).1; have := hT g hm; omega⟩
end Seat
/-- The blocks that the reference's document turns. -/
def RLay.turns (D : RLay) (b : Nat) : List Nat := b :: (ob D.a3 ++ ob D.a4)
structure RDocIs (w : World) (B : Nat) (S : List Nat) (b : Nat) (st : LDoc) (D : RLay) : Prop where
  blk : Blk w b 83 (D.cells st)
  book : Seat w B S (D.turns b) 3 D.a1 st.book.length (lcells st.book)
  bookc : st.book.length ≤ D.c1 ∧ D.c1 ≤ 9223372036854775807
  marks : Seat w B S (D.turns b) 3 D.a2 st.marks.length (mcells st.marks)
  marksc : st.marks.length ≤ D.c2 ∧ D.c2 ≤ 9223372036854775807
  known : Own w B 3 1 D.a3 st.known.length D.c3 (ints st.known)
  ops : Own w B 48 6 D.a4 st.ops.length D.c4 (ocells D.ys)
  same : D.ys.map OpAt.op = st.ops
  seen : ∀ y ∈ D.ys, Seat w B S (D.turns b) 2 y.at_ y.op.seen.length (dcells y.op.seen)
  sub : ∀ g ∈ D.turns b, g ∈ S
  own : ∀ g ∈ S, B ≤ g ∧ g < w.heap.size
/-- What a step leaves: another document, only its blocks turned. -/
def RDocTo (w : World) (B : Nat) (S : List Nat) (b : Nat) (D : RLay) (st : LDoc) (w' : World) : Prop :=
  ∃ S' D', RDocIs w' B S' b st D' ∧ Only (D.turns b) w w' ∧ (∀ g ∈ S', g ∈ S ∨ w.heap.size ≤ g) ∧ (∀ g ∈ D'.turns b, g ∈ D.turns b ∨ w.heap.size ≤ g) ∧ D'.a3 = D.a3 ∧ D'.c3 = D.c3
namespace RDocIs
variable {w w' : World} {B : Nat} {S T : List Nat} {b : Nat} {st : LDoc} {D : RLay}
theorem only (h : RDocIs w B S b st D) (ho : Only T w w') (hT : ∀ g ∈ T, B ≤ g ∧ g ∉ S) : RDocIs w' B S b st D where
  blk := ho.blk h.blk (fun hm => (hT _ hm).2 (h.sub _ (by simp [RLay.turns])))
  book := h.book.only ho hT
  bookc := h.bookc
  marks := h.marks.only ho hT
  marksc := h.marksc
  known := h.known.only ho (fun g hg hm => (hT g hm).2 (h.sub g (by simp [RLay.turns, hg])))
  ops := h.ops.only ho (fun g hg hm => (hT g hm).2 (h.sub g (by simp [RLay.turns, hg])))
  same := h.same
  seen := fun y hy => (h.seen y hy).only ho hT
  sub := h.sub
  own := fun g hg => ⟨(h.own g hg).1, Nat.lt_of_lt_of_le (h.own g hg).2 ho.size⟩
theorem below (h : RDocIs w B S b st D) (hb : Below w.heap.size w w') : RDocIs w' B S b st D := h.only (T := []) (Only.of_below hb) (by simp)
theorem drewN (h : RDocIs w B S b st D) (n : Nat) : RDocIs (w.drewN n) B S b st D := h.below (below_drewN (Below.refl _ _) n)
theorem ys_len (h : RDocIs w B S b st D) : D.ys.length = st.ops.length := by rw [← h.same, List.length_map]
theorem b4 (h : RDocIs w B S b st D) : b ∉ ob D.a4 := h.ops.blk_ne h.blk (by decide)
theorem b3 (h : RDocIs w B S b st D) : b ∉ ob D.a3 := h.known.blk_ne h.blk (by decide)
theorem to_self (h : RDocIs w B S b st D) (hb : Below w.heap.size w w') : RDocTo w B S b D st w' := ⟨S, D, h.below hb, Only.of_below hb, fun g hg => .inl hg, fun g hg => .inl hg, rfl, rfl⟩
theorem mono {B' : Nat} (h : RDocIs w B S b st D) (hB : ∀ g ∈ S, B' ≤ g) (hh : B ≤ B') : RDocIs w B' S b st D :=
  { h with
    book := ⟨h.book.row, fun hn g hg => (h.book.in_ hn g hg).imp (by omega) id, h.book.out⟩
    marks := ⟨h.marks.row, fun hn g hg => (h.marks.in_ hn g hg).imp (by omega) id, h.marks.out⟩
    known := by
      rcases h.known with ⟨h1, h2⟩
      refine ⟨h1, ?_⟩
      rcases h2 with h2 | ⟨g, cap, cur, hv, hb, hr⟩
      · exact .inl h2
      · exact .inr ⟨g, cap, cur, hv, hB g (h.sub g (by injection hv with hv; simp [RLay.turns, hv, ob])), hr⟩
    ops := by
      rcases h.ops with ⟨h1, h2⟩
      refine ⟨h1, ?_⟩
      rcases h2 with h2 | ⟨g, cap, cur, hv, hb, hr⟩
      · exact .inl h2
      · exact .inr ⟨g, cap, cur, hv, hB g (h.sub g (by injection hv with hv; simp [RLay.turns, hv, ob])), hr⟩
    seen := fun y hy => ⟨(h.seen y hy).row, fun hn g hg => ((h.seen y hy).in_ hn g hg).imp (by omega) id, (h.seen y hy).out⟩
    own := fun g hg => ⟨hB g hg, (h.own g hg).2⟩ }
end RDocIs
/-- The program's document and the reference's, beside each other. -/
structure Twin (w : World) (B b1 b2 : Nat) (s1 s2 : LDoc) (wr : World) (S1 S2 : List Nat) (D1 : DLay) (D2 : RLay) : Prop where
  one : DocIs wr B S1 b1 s1 D1
  two : RDocIs wr B S2 b2 s2 D2
  apart : ∀ g ∈ S1, g ∉ S2
  below : Below w.heap.size w wr
  base : w.heap.size ≤ B
namespace Twin
variable {w wr w' : World} {B b1 b2 : Nat} {s1 s2 s : LDoc} {S1 S2 : List Nat} {D1 : DLay} {D2 : RLay}
theorem left (h : Twin w B b1 b2 s1 s2 wr S1 S2 D1 D2) (ht : DocTo wr B S1 b1 s w') : ∃ S' D', Twin w B b1 b2 s s2 w' S' S2 D' D2 ∧ Only S1 wr w' ∧ ∀ g ∈ S', g ∈ S1 ∨ wr.heap.size ≤ g := by
  obtain ⟨S', D', h1, h2, h3⟩ := ht
  refine ⟨S', D', ⟨h1, h.two.only h2 (fun g hg => ⟨(h.one.own g hg).1, h.apart g hg⟩), fun g hg hm => ?_, h.below.trans (h2.below h.below.size (fun g hg => by have := (h.one.own g hg).1; have := h.base; omega)), h.base⟩, h2, h3⟩
  rcases h3 g hg with h4 | h4
  · exact h.apart g h4 hm
  · have := (h.two.own g hm).2; omega
theorem right (h : Twin w B b1 b2 s1 s2 wr S1 S2 D1 D2) (ht : RDocTo wr B S2 b2 D2 s w') : ∃ S' D', Twin w B b1 b2 s1 s w' S1 S' D1 D' ∧ Only (D2.turns b2) wr w' ∧ ∀ g ∈ S', g ∈ S2 ∨ wr.heap.size ≤ g := by
  obtain ⟨S', D', h1, h2, h3, _⟩ := ht
  refine ⟨S', D', ⟨h.one.only h2 (fun g hg hm => h.apart g hm (h.two.sub g hg)), h1, fun g hg hm => ?_, h.below.trans (h2.below h.below.size (fun g hg => by have := (h.two.own g (h.two.sub g hg)).1; have := h.base; omega)), h.base⟩, h2, h3⟩
  rcases h3 g hm with h4 | h4
  · exact h.apart g hg h4
  · have := (h.one.own g hg).2; omega
theorem step (h : Twin w B b1 b2 s1 s2 wr S1 S2 D1 D2) (hb : Below wr.heap.size wr w') : Twin w B b1 b2 s1 s2 w' S1 S2 D1 D2 :=
  ⟨h.one.below hb, h.two.below hb, h.apart, h.below.trans (hb.mono h.below.size), h.base⟩
theorem drewN (h : Twin w B b1 b2 s1 s2 wr S1 S2 D1 D2) (n : Nat) : Twin w B b1 b2 s1 s2 (wr.drewN n) S1 S2 D1 D2 := h.step (below_drewN (Below.refl _ _) n)
/-- The program's is there; the reference's is newly made. -/
theorem make (hw : Below w.heap.size w wr) (hB : w.heap.size ≤ B) (h1 : DocIs wr B S1 b1 s1 D1) (hb : Below wr.heap.size wr w') (h2 : RDocIs w' B S2 b2 s2 D2) (hS : ∀ g ∈ S2, wr.heap.size ≤ g) : Twin w B b1 b2 s1 s2 w' S1 S2 D1 D2 :=
  ⟨h1.below hb, h2, fun g hg hm => by have := (h1.own g hg).2; have := hS g hm; omega, hw.trans (hb.mono hw.size), hB⟩
end Twin
end Go.Proofs.YtkaccnegdmpofaaGreatDoor
/- (*leafref2.Doc).seen, New, walked. Conditions: the document is right. -/
namespace Go.Proofs.YtkaccnegdmpofaaGreatDoor
open Go.RowKit
set_option linter.unusedVariables false
def sawOp (p : ByteArray) (x : LDot) (o : LOp) : Bool := decide (o.what = 4) && (decide (o.place = p) && inD o.seen x)
def SawLoop (w : World) (l : List LOp) (p : ByteArray) (x : LDot) (i : Value) (wr : World) : Prop := ∃ k : Nat, k ≤ l.length ∧ i = .int .i64 k ∧ Hid (Below w.heap.size w wr) ∧ Hid ((l.take k).any (sawOp p x) = false)
section
variable (w : World) (B : Nat) (S : List Nat) (b : Nat) (st : LDoc) (D : RLay) (h : RDocIs w B S b st D) (ok : st.Ok)
include h ok
set_option maxRecDepth 100000 in
set_option maxHeartbeats 4000000 in
theorem rseen_doc (p : ByteArray) (x : LDot) : Calls Tryz.prog 51 #[.pointer (some ⟨b, 0, none⟩), .string p, .agg #[.int .i64 x.who, .int .i64 x.n]] w (CheckPost w (.bool (st.ops.any (sawOp p x)))) := by
  obtain ⟨W0, hW0⟩ : ∃ W0, W0 = w.alloc (.cells #[.int .i64 x.who, .int .i64 x.n] 45) := ⟨_, rfl⟩
  have HB0 : Hid (Below w.heap.size w W0) := by rw [hW0]; exact (Below.refl _ _).alloc (Nat.le_refl _) _
  have HX : Hid (Blk W0 w.heap.size 45 #[.int .i64 x.who, .int .i64 x.n]) := by rw [hW0]; exact Blk.new w 45 #[.int .i64 x.who, .int .i64 x.n]
  have HSZ : Hid (W0.heap.size = w.heap.size + 1) := by rw [hW0]; exact World.size_alloc _ _
  have HD := Lib.hid (h.below HB0.out)
  have HYL := Lib.hid h.ys_len
  have HSM := Lib.hid h.same
  have HOK := Lib.hid ok
  have few := ok.few
  clear h ok
  go_enter Tryz.func51, Tryz.ntmps51
  go_wp2_with fail
  rw [← hW0]
  clear hW0
  go_loopw [7] (fun i wr => SawLoop W0 st.ops p x i wr) (fun i _ => st.ops.length - (intOf i).toNat)
  case atStart => exact ⟨0, by omega, rfl, Below.refl _ _, rfl⟩
  case round =>
    obtain ⟨k, hk, rfl, HBr, HN⟩ := hrel
    have c3 : wr.cell? ⟨b, 3, none⟩ = some (.slice D.a4 st.ops.length D.c4) := by rw [(HD.out.below HBr.out).blk.cell]; rfl
    by_cases hkn : k < st.ops.length
    · have hky : k < D.ys.length := by rw [HYL.out]; exact hkn
      have hops := (HD.out.below HBr.out).ops.reads
      rw [← HYL.out] at hops
      obtain ⟨ad, ha, hab, e0, e1, e2, e3, e4, e5⟩ := hops.op hky
      have hoy : D.ys[k].op = st.ops[k] := by
        have h2 : (D.ys.map OpAt.op)[k]? = st.ops[k]? := by rw [HSM.out]
        rw [List.getElem?_map, List.getElem?_eq_getElem hky, List.getElem?_eq_getElem hkn] at h2
        simpa using h2
      have hseat := ((HD.out.below HBr.out).seen _ (List.getElem_mem hky)).row
      have hgood := (op_ok (HOK.out.ops _ (List.getElem_mem hkn)).1).2.2.2.2.2.2.1
      have HST : Hid ((st.ops.take (k + 1)).any (sawOp p x) = sawOp p x st.ops[k]) := by
        show _ = _
        rw [List.take_succ_eq_append_getElem hkn, List.any_append, HN.out]; simp
      have HALL : Hid (sawOp p x st.ops[k] = true → st.ops.any (sawOp p x) = true) := fun hh => List.any_eq_true.2 ⟨_, List.getElem_mem hkn, hh⟩
      rw [hoy] at e0 e1 e2 e3 e4 e5 hseat
      generalize D.ys[k].at_ = ya at *
      generalize D.ys[k].cap = yc at *
      clear hoy hops
      generalize st.ops[k] = o at *
      obtain ⟨⟨who, n⟩, what, place, letter, seen⟩ := o
      simp only at e0 e1 e2 e3 e4 e5 hseat hgood
      rw [ha] at c3
      have k0 : (0 : Int) ≤ (k : Int) := by omega
      have k1 : (k : Int) < (st.ops.length : Int) := by omega
      have HBK : Hid (Blk (wr.alloc (.cells #[.int .i64 who, .int .i64 n, .int .i64 what, .string place, .int .i64 letter, .slice ya seen.length yc] 48)) wr.heap.size 48 _) := Blk.new wr 48 #[.int .i64 who, .int .i64 n, .int .i64 what, .string place, .int .i64 letter, .slice ya seen.length yc]
      have HBa := Lib.hid (HBr.out.alloc HBr.out.size (.cells #[.int .i64 who, .int .i64 n, .int .i64 what, .string place, .int .i64 letter, .slice ya seen.length yc] 48))
      have HIN := Lib.hid (fun W (hb : Below wr.heap.size wr W) => rin_any W ya yc seen x ((hseat.below hb).more hb.size) (by omega))
      have HWB : Hid (Below wr.heap.size wr (wr.alloc (.cells #[.int .i64 who, .int .i64 n, .int .i64 what, .string place, .int .i64 letter, .slice ya seen.length yc] 48))) := (Below.refl _ _).alloc (Nat.le_refl _) _
      have f1 : (wr.alloc (.cells #[.int .i64 who, .int .i64 n, .int .i64 what, .string place, .int .i64 letter, .slice ya seen.length yc] 48)).cell? ⟨wr.heap.size, 5, none⟩ = some (.slice ya seen.length yc) := by rw [HBK.out.cell]; rfl
      have x0 : (wr.alloc (.cells #[.int .i64 who, .int .i64 n, .int .i64 what, .string place, .int .i64 letter, .slice ya seen.length yc] 48)).cell? ⟨w.heap.size, 0, none⟩ = some (.int .i64 x.who) := by rw [((HX.out.below HBr.out (by have := HSZ.out; omega)).below HWB.out (by have := HBr.out.size; have := HSZ.out; omega)).cell]; rfl
      have x1 : (wr.alloc (.cells #[.int .i64 who, .int .i64 n, .int .i64 what, .string place, .int .i64 letter, .slice ya seen.length yc] 48)).cell? ⟨w.heap.size, 1, none⟩ = some (.int .i64 x.n) := by rw [((HX.out.below HBr.out (by have := HSZ.out; omega)).below HWB.out (by have := HBr.out.size; have := HSZ.out; omega)).cell]; rfl
      clear hseat
      go_wp2_with fail
      refine (HIN.out _ HWB.out).mono ?_
      rintro e w3 ⟨rfl, hb3⟩
      have g1 : w3.cell? ⟨wr.heap.size, 2, none⟩ = some (.int .i64 what) := by rw [(HBK.out.below hb3 (by simp)).cell]; rfl
      have g2 : w3.cell? ⟨wr.heap.size, 3, none⟩ = some (.string place) := by rw [(HBK.out.below hb3 (by simp)).cell]; rfl
      have HB3 := Lib.hid (HBa.out.trans (hb3.mono HBa.out.size))
      clear hb3 f1 x0 x1 HIN
      by_cases hw : what = 4
      · subst hw
        by_cases hp : place = p
        · subst hp
          have gp : (place.toList == place.toList) = true := by simp
          cases hin : inD seen x with
          | true =>
            have HA := Lib.hid (HALL.out (by unfold sawOp; simp [hin]))
            go_wp2_with fail
            go_ret
            exact ⟨by rw [HA.out]; rfl, HB0.out.trans (HB3.out.mono (by have := HSZ.out; omega))⟩
          | false =>
            have HF : Hid (_ = false) := HST.out.trans (by unfold sawOp; simp [hin])
            go_wp2_with fail
            go_roundw
            case rel => exact ⟨k + 1, by omega, by go_num, HB3, HF⟩
            case measure => simp [intOf]; omega
        · have gp : (place.toList == p.toList) = false := by rw [beq_eq_false_iff_ne]; exact fun h => hp (tl_inj h)
          have HF : Hid (_ = false) := HST.out.trans (by unfold sawOp; simp [hp])
          go_wp2_with fail
          go_roundw
          case rel => exact ⟨k + 1, by omega, by go_num, HB3, HF⟩
          case measure => simp [intOf]; omega
      · have gw : (what == 4) = false := by simpa using hw
        have HF : Hid (_ = false) := HST.out.trans (by unfold sawOp; simp [hw])
        go_wp2_with fail
        go_roundw
        case rel => exact ⟨k + 1, by omega, by go_num, HB3, HF⟩
        case measure => simp [intOf]; omega
    · have k1 : ¬ (k : Int) < (st.ops.length : Int) := by omega
      have HE : Hid (st.ops.any (sawOp p x) = false) := by
        have := HN.out
        rwa [List.take_of_length_le (by omega)] at this
      go_wp2_with fail
      go_ret
      exact ⟨by rw [HE.out]; rfl, HB0.out.trans (HBr.out.mono (by have := HSZ.out; omega))⟩
end
end Go.Proofs.YtkaccnegdmpofaaGreatDoor
/- The reference's document: its parts laid anew. Plain lemmas. Conditions: none. -/
namespace Go.Proofs.YtkaccnegdmpofaaGreatDoor
open Go.RowKit
set_option linter.unusedVariables false
namespace RDocIs
variable {w w' : World} {B : Nat} {S S' T : List Nat} {b : Nat} {st : LDoc} {D : RLay}
theorem setBook (h : RDocIs w B S b st D) (hS : ∀ g ∈ S, g ∈ S') (hO : ∀ g ∈ S', B ≤ g ∧ g < w.heap.size) {V : Option Addr} {c : Nat} {l : List LLeaf} (hV : Seat w B S' (D.turns b) 3 V l.length (lcells l)) (hc : l.length ≤ c ∧ c ≤ 9223372036854775807) :
    RDocIs (w.setCell ⟨b, 0, none⟩ (.slice V l.length c)) B S' b { st with book := l } { D with a1 := V, c1 := c } := by
  have ho : Only [b] w (w.setCell ⟨b, 0, none⟩ (.slice V l.length c)) := (Only.refl _ _).setCell (.inl (by simp)) _
  have hU : ∀ g ∈ [b], g ∈ D.turns b ∨ w.heap.size ≤ g := by simp [RLay.turns]
  refine ⟨h.blk.set_ 0 _, hV.turned ho hU, hc, (h.marks.turned ho hU).more hS (fun g hg => .inl hg), h.marksc, h.known.only ho (fun g hg hm => ?_), h.ops.only ho (fun g hg hm => ?_), h.same, fun y hy => ((h.seen y hy).turned ho hU).more hS (fun g hg => .inl hg), fun g hg => hS g (h.sub g hg), fun g hg => ⟨(hO g hg).1, Nat.lt_of_lt_of_le (hO g hg).2 ho.size⟩⟩
  · simp at hm; subst hm; exact h.b3 hg
  · simp at hm; subst hm; exact h.b4 hg
theorem setMarks (h : RDocIs w B S b st D) (hS : ∀ g ∈ S, g ∈ S') (hO : ∀ g ∈ S', B ≤ g ∧ g < w.heap.size) {V : Option Addr} {c : Nat} {l : List LMark} (hV : Seat w B S' (D.turns b) 3 V l.length (mcells l)) (hc : l.length ≤ c ∧ c ≤ 9223372036854775807) :
    RDocIs (w.setCell ⟨b, 1, none⟩ (.slice V l.length c)) B S' b { st with marks := l } { D with a2 := V, c2 := c } := by
  have ho : Only [b] w (w.setCell ⟨b, 1, none⟩ (.slice V l.length c)) := (Only.refl _ _).setCell (.inl (by simp)) _
  have hU : ∀ g ∈ [b], g ∈ D.turns b ∨ w.heap.size ≤ g := by simp [RLay.turns]
  refine ⟨h.blk.set_ 1 _, (h.book.turned ho hU).more hS (fun g hg => .inl hg), h.bookc, hV.turned ho hU, hc, h.known.only ho (fun g hg hm => ?_), h.ops.only ho (fun g hg hm => ?_), h.same, fun y hy => ((h.seen y hy).turned ho hU).more hS (fun g hg => .inl hg), fun g hg => hS g (h.sub g hg), fun g hg => ⟨(hO g hg).1, Nat.lt_of_lt_of_le (hO g hg).2 ho.size⟩⟩
  · simp at hm; subst hm; exact h.b3 hg
  · simp at hm; subst hm; exact h.b4 hg
theorem a3_blk (h : RDocIs w B S b st D) {g : Nat} (hg : D.a3 = some ⟨g, 0, none⟩) : ∃ cs, Blk w g 3 cs := by
  rcases h.known.2 with ⟨h2, _⟩ | ⟨g', cap, cur, he, _, hh, _⟩
  · injection h2 with h2; rw [hg] at h2; cases h2
  · injection he with he
    rw [hg] at he
    injection he with he
    injection he with he
    subst he
    exact ⟨cur, hh⟩
theorem a34 (h : RDocIs w B S b st D) {g : Nat} (hg : D.a3 = some ⟨g, 0, none⟩) : g ∉ ob D.a4 := by
  obtain ⟨cs, hh⟩ := h.a3_blk hg
  exact h.ops.blk_ne hh (by decide)
theorem setKnown (h : RDocIs w B S b st D) {g k : Nat} (hg : D.a3 = some ⟨g, 0, none⟩) (hk : k < st.known.length) (n : Int) :
    RDocIs (w.setCell ⟨g, k, none⟩ (.int .i64 n)) B S b { st with known := st.known.set k n } D := by
  have ho : Only [g] w (w.setCell ⟨g, k, none⟩ (.int .i64 n)) := (Only.refl _ _).setCell (.inl (by simp)) _
  have hgT : g ∈ D.turns b := by unfold RLay.turns; rw [hg]; simp [ob]
  have hU : ∀ x ∈ [g], x ∈ D.turns b ∨ w.heap.size ≤ x := by intro x hx; simp at hx; subst hx; exact .inl hgT
  refine ⟨?_, h.book.turned ho hU, h.bookc, h.marks.turned ho hU, h.marksc, ?_, h.ops.only ho (fun x hx hm => ?_), h.same, fun y hy => (h.seen y hy).turned ho hU, h.sub, fun x hx => ⟨(h.own x hx).1, Nat.lt_of_lt_of_le (h.own x hx).2 ho.size⟩⟩
  · have : D.cells { st with known := st.known.set k n } = D.cells st := by unfold RLay.cells; simp
    rw [this]
    exact ho.blk h.blk (by simp; intro e; exact h.b3 (by rw [hg]; simp [ob, e]))
  · have hk2 := h.known
    rw [hg] at hk2
    have := hk2.store hk (.int .i64 n)
    rw [ints_set] at this
    rw [hg]
    simpa using this
  · simp at hm; subst hm; exact h.a34 hg hx
theorem addOp (h : RDocIs w B S b st D) {y : OpAt} (hy : Seat w B S (D.turns b) 2 y.at_ y.op.seen.length (dcells y.op.seen)) {V : Option Addr} {c : Nat} {w1 : World}
    (hV : Own w1 B 48 6 V (st.ops.length + 1) c (ocells D.ys ++ y.cells)) (ho1 : Only (ob D.a4) w w1) (hg : ∀ g ∈ ob V, g ∈ ob D.a4 ∨ g = w.heap.size) :
    RDocIs (w1.setCell ⟨b, 3, none⟩ (.slice V (st.ops.length + 1) c)) B (ob V ++ S) b { st with ops := st.ops ++ [y.op] } { D with a4 := V, c4 := c, ys := D.ys ++ [y] } := by
  have ho2 : Only [b] w1 (w1.setCell ⟨b, 3, none⟩ (.slice V (st.ops.length + 1) c)) := (Only.refl _ _).setCell (.inl (by simp)) _
  have hb1 := ho1.blk h.blk h.b4
  have ho : Only (ob D.a4 ++ [b]) w (w1.setCell ⟨b, 3, none⟩ (.slice V (st.ops.length + 1) c)) := (ho1.mono (by intro i hi; simp [hi])).trans (ho2.mono (by intro i hi; simp at hi; simp [hi]))
  have hU : ∀ g ∈ ob D.a4 ++ [b], g ∈ D.turns b ∨ w.heap.size ≤ g := by
    intro g hg
    unfold RLay.turns
    rcases List.mem_append.1 hg with h1 | h1
    · exact .inl (by simp [h1])
    · simp at h1; subst h1; exact .inl (by simp)
  have e : (st.ops ++ [y.op]).length = st.ops.length + 1 := by simp
  have hT : ∀ g ∈ RLay.turns { D with a4 := V, c4 := c, ys := D.ys ++ [y] } b, g ∈ D.turns b ∨ w.heap.size ≤ g := by
    intro g hm
    unfold RLay.turns at hm ⊢
    simp only [List.mem_cons, List.mem_append] at hm ⊢
    rcases hm with h1 | h1 | h1
    · exact .inl (.inl h1)
    · exact .inl (.inr (.inl h1))
    · rcases hg g h1 with h2 | h2
      · exact .inl (.inr (.inr h2))
      · exact .inr (by omega)
  have hS : ∀ g ∈ S, g ∈ ob V ++ S := fun g hg => by simp [hg]
  have key : ∀ {n size : Nat} {A : Option Addr} {xs : List Value}, Seat w B S (D.turns b) size A n xs → Seat (w1.setCell ⟨b, 3, none⟩ (.slice V (st.ops.length + 1) c)) B (ob V ++ S) (RLay.turns { D with a4 := V, c4 := c, ys := D.ys ++ [y] } b) size A n xs := fun {n size A xs} hh =>
    ⟨(hh.turned ho hU).row, (hh.more hS hT).in_, (hh.more hS hT).out⟩
  refine ⟨?_, key h.book, h.bookc, key h.marks, h.marksc, ?_, ?_, ?_, ?_, ?_, ?_⟩
  · have := hb1.set_ 3 (.slice V (st.ops.length + 1) c)
    unfold RLay.cells
    simp only [e]
    exact this
  · refine h.known.only ho (fun g hg hm => ?_)
    rcases List.mem_append.1 hm with h1 | h1
    · obtain ⟨g', hg'⟩ : ∃ g', D.a3 = some ⟨g', 0, none⟩ := by
        rcases h.known.2 with ⟨h2, _⟩ | ⟨g', cap, cur, he, _⟩
        · injection h2 with h2; rw [h2] at hg; simp [ob] at hg
        · injection he with he; exact ⟨g', he⟩
      rw [hg'] at hg
      simp [ob] at hg
      subst hg
      exact h.a34 hg' h1
    · simp at h1; subst h1; exact h.b3 hg
  · simp only [e]
    have : ocells (D.ys ++ [y]) = ocells D.ys ++ y.cells := by simp [ocells]
    rw [this]
    exact hV.only ho2 (fun g hg hm => hV.blk_ne hb1 (by decide) (by simp at hm; exact hm ▸ hg))
  · simp [h.same]
  · intro z hz
    rcases List.mem_append.1 hz with hz | hz
    · exact key (h.seen z hz)
    · simp at hz; subst hz
      exact key hy
  · intro g hg'
    unfold RLay.turns at hg'
    simp only [List.mem_cons, List.mem_append] at hg' ⊢
    rcases hg' with h1 | h1 | h1
    · exact .inr (h.sub g (by simp [RLay.turns, h1]))
    · exact .inr (h.sub g (by simp [RLay.turns, h1]))
    · exact .inl h1
  · intro g hg'
    rcases List.mem_append.1 hg' with h1 | h1
    · exact ⟨(hV.lt g h1).1, Nat.lt_of_lt_of_le (hV.lt g h1).2 ho2.size⟩
    · exact ⟨(h.own g h1).1, Nat.lt_of_lt_of_le (h.own g h1).2 ho.size⟩
end RDocIs
theorem RDocIs.congr {w : World} {B : Nat} {S : List Nat} {b : Nat} {st s2 : LDoc} {D : RLay} (h : RDocIs w B S b st D) (e1 : s2.book = st.book) (e2 : s2.marks = st.marks) (e3 : s2.known = st.known) (e4 : s2.ops = st.ops) : RDocIs w B S b s2 D := by
  have hc : D.cells s2 = D.cells st := by unfold RLay.cells; rw [e1, e2, e3, e4]
  exact ⟨by rw [hc]; exact h.blk, by rw [e1]; exact h.book, by rw [e1]; exact h.bookc, by rw [e2]; exact h.marks, by rw [e2]; exact h.marksc, by rw [e3]; exact h.known, by rw [e4]; exact h.ops, by rw [e4]; exact h.same, h.seen, h.sub, h.own⟩
theorem far_drew2 {w : World} {p q : Addr} {u : Value} {x : Option Value} (hc : w.cell? q = x) (h : p.block ≠ q.block) : (w.setCell p u).drew.cell? q = x := by
  rw [World.cell?_drew, World.cell?_setCell_other _ _ _ _ (fun e => h (by rw [e]))]; exact hc
/-- An op more, at the end of a step: all that turned was the document's. -/
theorem rapply_close {w W7 w8 : World} {B : Nat} {S S' : List Nat} {b : Nat} {st s3 : LDoc} {D D3 : RLay} {o : LOp} {A V : Option Addr} {c cV : Nat} {cs : Array Value}
    (h : RDocIs w B S b st D) (ho : Only (D.turns b) w W7) (hT : D3.turns b = D.turns b) (h33 : D3.a3 = D.a3 ∧ D3.c3 = D.c3) (hd : RDocIs W7 B S' b s3 D3) (hS : ∀ g ∈ S', g ∈ S ∨ w.heap.size ≤ g) (hy : Seat w B S (D.turns b) 2 A o.seen.length (dcells o.seen)) (hSS : ∀ g ∈ S, g ∈ S')
    (hV : Own w8 B 48 6 V (s3.ops.length + 1) cV (ocells D3.ys ++ OpAt.cells ⟨o, A, c⟩)) (hL : Only (ob D3.a4) (W7.drew.alloc (.cells cs 48)) w8) (hg : ∀ g ∈ ob V, g ∈ ob D3.a4 ∨ g = (W7.drew.alloc (.cells cs 48)).heap.size) :
    RDocTo w B S b D { s3 with ops := s3.ops ++ [o] } (w8.setCell ⟨b, 3, none⟩ (.slice V (s3.ops.length + 1) cV)) := by
  have hb1 : Below W7.heap.size W7 (W7.drew.alloc (.cells cs 48)) := ((Below.refl _ _).drew).alloc (Nat.le_refl _) _
  have ho1 : Only (D.turns b) w (W7.drew.alloc (.cells cs 48)) := ho.trans (Only.of_below hb1)
  have hd1 := hd.below hb1
  generalize W7.drew.alloc (.cells cs 48) = W8 at *
  have hy2 : Seat W8 B S' (D3.turns b) 2 A o.seen.length (dcells o.seen) := by
    have := (hy.turned ho1 (fun g hg => .inl hg)).more hSS (T' := D3.turns b) (fun g hg => .inl (by rw [← hT]; exact hg))
    exact this
  have hfin := hd1.addOp (y := ⟨o, A, c⟩) hy2 hV hL hg
  have h78 := ho1.size
  have hsub : ∀ g ∈ ob D3.a4, g ∈ D.turns b := fun g hg => by rw [← hT]; unfold RLay.turns; simp [hg]
  refine ⟨_, _, hfin, (ho1.trans (hL.mono (fun i hi => .inl (hsub i hi)))).trans ((Only.refl _ _).setCell (.inl (by simp [RLay.turns])) _), fun g hg' => ?_, fun g hg' => ?_, h33.1, h33.2⟩
  · rcases List.mem_append.1 hg' with h1 | h1
    · rcases hg g h1 with h2 | h2
      · exact .inl (h.sub g (hsub g h2))
      · exact .inr (by omega)
    · exact hS g h1
  · rcases List.mem_cons.1 hg' with h1 | h1
    · exact .inl (by rw [h1]; simp [RLay.turns])
    · rcases List.mem_append.1 h1 with h2 | h2
      · exact .inl (by rw [← hT]; unfold RLay.turns; simp only [List.mem_cons, List.mem_append]; exact .inr (.inl h2))
      · rcases hg g h2 with h3 | h3
        · exact .inl (hsub g h3)
        · exact .inr (by omega)
/-- What the reference's step on the book and the marks gives. -/
structure RTurn (w : World) (B : Nat) (S : List Nat) (b : Nat) (st : LDoc) (D : RLay) (o : LOp) (V1 : Option Addr) (d1 : Nat) (l1 : List LLeaf) (V2 : Option Addr) (d2 : Nat) (l2 : List LMark) (S' : List Nat) (wx : World) : Prop where
  ok : st.turnE o = 0 → l1 = (st.turn o).book ∧ l2 = (st.turn o).marks
  below : Below w.heap.size w wx
  sub : ∀ g ∈ S, g ∈ S'
  new_ : ∀ g ∈ S', g ∈ S ∨ w.heap.size ≤ g
  own : ∀ g ∈ S', B ≤ g ∧ g < wx.heap.size
  book : Seat wx B S' (D.turns b) 3 V1 l1.length (lcells l1)
  bookc : l1.length ≤ d1 ∧ d1 ≤ 9223372036854775807
  marks : Seat wx B S' (D.turns b) 3 V2 l2.length (mcells l2)
  marksc : l2.length ≤ d2 ∧ d2 ≤ 9223372036854775807
namespace RTurn
variable {w wx : World} {B : Nat} {S S' : List Nat} {b : Nat} {st : LDoc} {D : RLay} {o : LOp}
theorem stays (h : RDocIs w B S b st D) (hb : Below w.heap.size w wx) (hm : st.turnE o = 0 → st.book = (st.turn o).book ∧ st.marks = (st.turn o).marks) : RTurn w B S b st D o D.a1 D.c1 st.book D.a2 D.c2 st.marks S wx :=
  let h' := h.below hb
  ⟨hm, hb, fun g hg => hg, fun g hg => .inl hg, h'.own, h'.book, h'.bookc, h'.marks, h'.marksc⟩
theorem book_ (h : RDocIs w B S b st D) (hb : Below w.heap.size w wx) {V : Option Addr} {c : Nat} {l : List LLeaf} (hV : Own wx w.heap.size 95 3 V l.length c (lcells l)) (hB : B ≤ w.heap.size) (hm : st.turnE o = 0 → l = (st.turn o).book ∧ st.marks = (st.turn o).marks) :
    RTurn w B S b st D o V c l D.a2 D.c2 st.marks (ob V ++ S) wx := by
  have h' := h.below hb
  have hS : ∀ g ∈ S, g ∈ ob V ++ S := fun g hg => by simp [hg]
  refine ⟨hm, hb, hS, fun g hg => ?_, fun g hg => ?_, Seat.of_own hV (fun g hg => by simp [hg]) (fun g hg => (h.own g (h.sub g hg)).2), ⟨hV.cap_le, by have := hV.cap_max; unfold maxLen at this; omega⟩, h'.marks.more hS (fun g hg => .inl hg), h'.marksc⟩
  · rcases List.mem_append.1 hg with h1 | h1
    · exact .inr (hV.lt g h1).1
    · exact .inl h1
  · rcases List.mem_append.1 hg with h1 | h1
    · exact ⟨by have := (hV.lt g h1).1; omega, (hV.lt g h1).2⟩
    · exact h'.own g h1
theorem marks_ (h : RDocIs w B S b st D) (hb : Below w.heap.size w wx) {V : Option Addr} {c : Nat} {l : List LMark} (hV : Own wx w.heap.size 114 3 V l.length c (mcells l)) (hB : B ≤ w.heap.size) (hm : st.turnE o = 0 → st.book = (st.turn o).book ∧ l = (st.turn o).marks) :
    RTurn w B S b st D o D.a1 D.c1 st.book V c l (ob V ++ S) wx := by
  have h' := h.below hb
  have hS : ∀ g ∈ S, g ∈ ob V ++ S := fun g hg => by simp [hg]
  refine ⟨hm, hb, hS, fun g hg => ?_, fun g hg => ?_, h'.book.more hS (fun g hg => .inl hg), h'.bookc, Seat.of_own hV (fun g hg => by simp [hg]) (fun g hg => (h.own g (h.sub g hg)).2), ⟨hV.cap_le, by have := hV.cap_max; unfold maxLen at this; omega⟩⟩
  · rcases List.mem_append.1 hg with h1 | h1
    · exact .inr (hV.lt g h1).1
    · exact .inl h1
  · rcases List.mem_append.1 hg with h1 | h1
    · exact ⟨by have := (hV.lt g h1).1; omega, (hV.lt g h1).2⟩
    · exact h'.own g h1
end RTurn
end Go.Proofs.YtkaccnegdmpofaaGreatDoor
/- The document's Marks, With, Without, walked. Conditions: places that an int may count. -/
namespace Go.Proofs.YtkaccnegdmpofaaGreatDoor
open Go.RowKit
set_option linter.unusedVariables false
def withErr (l : List LMark) (m : LMark) : Int := if hasM l m = true then 0 else if 40 ≤ l.length then 4 else 0
/-- Marks and a number are given back: a row of the call's own, or the one that came. -/
def RMarksPost (w : World) (A : Option Addr) (c0 : Nat) (l0 l : List LMark) (k : Int) (e : Ending) (w' : World) : Prop :=
  ∃ V c, e = .returned (.tuple #[.slice V l.length c, .int .i64 k]) ∧ (Own w' w.heap.size 114 3 V l.length c (mcells l) ∨ (V = A ∧ c = c0 ∧ l = l0)) ∧ Below w.heap.size w w'
def WithLoop (w : World) (l : List LMark) (m : LMark) (i : Value) (wr : World) : Prop :=
  ∃ k : Nat, k ≤ l.length ∧ i = .int .i64 k ∧ Hid (Below w.heap.size w wr) ∧ Hid (∀ j (hj : j < l.length), j < k → ltM l[j] m)
def AtAhead (w : World) (l : List LMark) (m : LMark) (i : Value) (wr : World) : Prop :=
  ∃ k : Nat, k ≤ l.length ∧ i = .int .i64 k ∧ Hid (aheadM l m = k) ∧ Hid (Below w.heap.size w wr)
set_option maxRecDepth 100000 in
set_option maxHeartbeats 8000000 in
theorem rwith_any (w : World) (A : Option Addr) (c : Nat) (l : List LMark) (m : LMark) (h : Reads w w.heap.size 3 A l.length (mcells l)) (ok : MarksOk l) (hc : l.length ≤ c) (hcm : c ≤ 9223372036854775807) :
    Calls Tryz.prog 52 #[.slice A l.length c, .agg #[.string m.place, .int .i64 m.dot.who, .int .i64 m.dot.n]] w (RMarksPost w A c l (giveM (withErr l m) (cutRes l m)) (withErr l m)) := by
  obtain ⟨W0, hW0⟩ : ∃ W0, W0 = w.alloc (.cells #[.string m.place, .int .i64 m.dot.who, .int .i64 m.dot.n] 114) := ⟨_, rfl⟩
  have hfew := ok.few
  have HSZ : Hid (w.heap.size < W0.heap.size) := by show _ < _; rw [hW0]; simp
  have HBW : Hid (Below w.heap.size w W0) := by show Below _ _ _; rw [hW0]; exact (Below.refl _ _).alloc (Nat.le_refl _) _
  have HR : Hid (∀ W, Below W0.heap.size W0 W → Reads W W0.heap.size 3 A l.length (mcells l)) := fun W hb => ((h.below HBW.out).more HBW.out.size).below hb
  have HBK : Hid (∀ W, Below W0.heap.size W0 W → Blk W w.heap.size 114 #[.string m.place, .int .i64 m.dot.who, .int .i64 m.dot.n]) := fun W hb => by
    have h0 : Blk W0 w.heap.size 114 #[.string m.place, .int .i64 m.dot.who, .int .i64 m.dot.n] := by rw [hW0]; exact Blk.new w _ _
    exact h0.below hb HSZ.out
  have HO := Lib.hid (fun w (x : LMark) => rbefore_any w x m)
  have HRW : Hid (∀ W, Below w.heap.size w W → Reads W w.heap.size 3 (tailA A c (aheadM l m) 3) (l.length - aheadM l m) ((mcells l).drop (aheadM l m * 3))) := fun W hb => (h.tail (aheadM_le _ _) hc).below hb
  have HRi := Lib.hid ok.rising
  have HAH := Lib.hid (fun i hi h1 h2 => aheadM_of (l := l) (m := m) (i := i) hi h1 h2)
  obtain ⟨q, ⟨d, n⟩⟩ := m
  simp only at hW0 HBK
  clear h ok
  go_enter Tryz.func52, Tryz.ntmps52
  go_upto_block 0 with (fail)
  rw [← hW0]
  clear hW0
  go_cut [6] (fun i wx => AtAhead W0 l ⟨q, ⟨d, n⟩⟩ i wx)
  case first =>
    go_wp2_with fail
    go_loopw [6] (fun i wr => WithLoop W0 l ⟨q, ⟨d, n⟩⟩ i wr) (fun i _ => l.length - (intOf i).toNat)
    case atStart => exact ⟨0, by omega, rfl, Below.refl _ _, fun j hj h => by omega⟩
    case round =>
      obtain ⟨k, hk, rfl, HB, HN⟩ := hrel
      have hsz0 : w.heap.size < wr.heap.size := by have := HB.out.size; have := HSZ.out; omega
      have b0 : wr.cell? ⟨w.heap.size, 0, none⟩ = some (.string q) := by rw [(HBK.out _ HB.out).cell]; rfl
      have b1 : wr.cell? ⟨w.heap.size, 1, none⟩ = some (.int .i64 d) := by rw [(HBK.out _ HB.out).cell]; rfl
      have b2 : wr.cell? ⟨w.heap.size, 2, none⟩ = some (.int .i64 n) := by rw [(HBK.out _ HB.out).cell]; rfl
      have hk0 : (0 : Int) ≤ (k : Int) := by omega
      by_cases hkn : k < l.length
      · obtain ⟨ad, rfl, hb, c0, c1, c2⟩ := (HR.out _ HB.out).mark hkn
        have hlt : (k : Int) < (l.length : Int) := by omega
        have g0 : decide ((k : Int) < (l.length : Int)) = true := decide_eq_true hlt
        have HX : Hid (∀ x, x = l[k] → ltM x ⟨q, ⟨d, n⟩⟩ → ∀ j (hj : j < l.length), j < k + 1 → ltM l[j] ⟨q, ⟨d, n⟩⟩) := fun x hx hl j hj hjk => by
          rcases Nat.eq_or_lt_of_le (Nat.le_of_lt_succ hjk) with h | h
          · subst h; rw [← hx]; exact hl
          · exact HN.out j hj h
        have HA : Hid (∀ x, x = l[k] → ¬ ltM x ⟨q, ⟨d, n⟩⟩ → aheadM l ⟨q, ⟨d, n⟩⟩ = k) := fun x hx hl => HAH.out k hk HN.out (fun j hj hkj hlt => by
          rcases Nat.eq_or_lt_of_le hkj with h | h
          · subst h; rw [hx] at hl; exact hl hlt
          · rw [hx] at hl; exact hl (ltM_trans (mrising_at HRi.out k j hkn hj h) hlt))
        generalize hlk : l[k] = x at *
        have HX2 := Lib.hid (HX.out x rfl)
        have HA2 := Lib.hid (HA.out x rfl)
        clear HX HA hlk
        obtain ⟨x0, ⟨x1, x2⟩⟩ := x
        simp only at c0 c1 c2
        have HO1 := Lib.hid (fun w => HO.out w ⟨x0, ⟨x1, x2⟩⟩)
        have hbk : Hid ((ad.add (k * 3)).block < wr.heap.size) := by show (ad.add (k * 3)).block < wr.heap.size; rw [block_of_add]; have := HB.out.size; omega
        have HLT : Hid (ltMb ⟨x0, ⟨x1, x2⟩⟩ ⟨q, ⟨d, n⟩⟩ = true ↔ ltM ⟨x0, ⟨x1, x2⟩⟩ ⟨q, ⟨d, n⟩⟩) := ltMb_iff
        go_wp2_with fail
        go_region_held3 (fun w' => w'.cell? (ad.add (k * 3)) = some (.string x0) ∧ w'.cell? ⟨(ad.add (k * 3)).block, (ad.add (k * 3)).off + 1, none⟩ = some (.int .i64 x1) ∧ w'.cell? ⟨(ad.add (k * 3)).block, (ad.add (k * 3)).off + 2, none⟩ = some (.int .i64 x2) ∧ w'.cell? ⟨w.heap.size, 0, none⟩ = some (.string q) ∧ w'.cell? ⟨w.heap.size, 1, none⟩ = some (.int .i64 d) ∧ w'.cell? ⟨w.heap.size, 2, none⟩ = some (.int .i64 n))
            (first
              | go_keep
              | (refine ⟨?_, ?_, ?_, ?_, ?_, ?_⟩ <;> assumption))
            (first
              | (go_at_call 103; refine (HO1.out _).mono ?_; rintro e3 w2 ⟨rfl, hb3'⟩; have hb3 : Below wr.heap.size wr w2 := below_of_drew hb3'; have k0 := (hb3.cell hbk.out).trans c0; have k1 := (hb3.cell (p := ⟨(ad.add (k * 3)).block, (ad.add (k * 3)).off + 1, none⟩) hbk.out).trans c1; have k2 := (hb3.cell (p := ⟨(ad.add (k * 3)).block, (ad.add (k * 3)).off + 2, none⟩) hbk.out).trans c2; have k3 := (hb3.cell (p := ⟨w.heap.size, 0, none⟩) hsz0).trans b0; have k4 := (hb3.cell (p := ⟨w.heap.size, 1, none⟩) hsz0).trans b1; have k5 := (hb3.cell (p := ⟨w.heap.size, 2, none⟩) hsz0).trans b2; have HB3 := Lib.hid (HB.out.trans (hb3.mono HB.out.size)); clear hb3 hb3'))
        cases hbv : ltMb ⟨x0, ⟨x1, x2⟩⟩ ⟨q, ⟨d, n⟩⟩ with
        | true =>
          have HNN := Lib.hid (HX2.out (HLT.out.1 hbv))
          clear hbv
          go_wp2_with fail
          go_roundw
          case rel => exact ⟨k + 1, by omega, by go_num, HB3, HNN⟩
          case measure => simp [intOf]; omega
        | false =>
          have HAH2 := Lib.hid (HA2.out (fun h => by rw [HLT.out.2 h] at hbv; cases hbv))
          clear hbv c0 c1 c2 b0 b1 b2
          go_wp2_with fail
          go_meet
          case rel => exact ⟨k, hk, rfl, HAH2, HB3⟩
      · have g0 : decide ((k : Int) < (l.length : Int)) = false := by simp; omega
        have HAH2 : Hid (aheadM l ⟨q, ⟨d, n⟩⟩ = k) := HAH.out k hk HN.out (fun j hj hkj _ => by omega)
        go_wp2_with fail
        go_quiet (fail)
        go_wp2_with fail
        go_meet
        case rel => exact ⟨k, hk, rfl, HAH2, below_drewN HB.out _⟩
  case rest =>
    obtain ⟨k, hk, rfl, HAH2, HB⟩ := hcut
    have hk0 : (0 : Int) ≤ (k : Int) := by omega
    have hk1 : (k : Int) ≤ (l.length : Int) := by omega
    go_upto_region 4 with (fail)
    go_cut [33] (fun v wx => v = .bool (hasM l ⟨q, ⟨d, n⟩⟩) ∧ Hid (Below W0.heap.size W0 wx))
    case first =>
      have b0 : wc.cell? ⟨w.heap.size, 0, none⟩ = some (.string q) := by rw [(HBK.out _ HB.out).cell]; rfl
      have b1 : wc.cell? ⟨w.heap.size, 1, none⟩ = some (.int .i64 d) := by rw [(HBK.out _ HB.out).cell]; rfl
      have b2 : wc.cell? ⟨w.heap.size, 2, none⟩ = some (.int .i64 n) := by rw [(HBK.out _ HB.out).cell]; rfl
      by_cases hkn : k < l.length
      · obtain ⟨ad, rfl, hb, c0, c1, c2⟩ := (HR.out _ HB.out).mark hkn
        have hlt : (k : Int) < (l.length : Int) := by omega
        have g0 : decide ((k : Int) < (l.length : Int)) = true := decide_eq_true hlt
        have HH : Hid (hasM l ⟨q, ⟨d, n⟩⟩ = decide (l[k] = ⟨q, ⟨d, n⟩⟩)) := by
          show _ = _
          unfold hasM
          rw [HAH2.out, List.getElem?_eq_getElem hkn]
          simp only [ordM_zero]
        generalize l[k] = x at *
        obtain ⟨x0, ⟨x1, x2⟩⟩ := x
        simp only at c0 c1 c2
        have hq : ∀ W, (Op.equalIn 10000 114 (.agg #[.string x0, .int .i64 x1, .int .i64 x2]) (.agg #[.string q, .int .i64 d, .int .i64 n])).run Tryz.prog W = .ok (decide ((⟨x0, ⟨x1, x2⟩⟩ : LMark) = ⟨q, ⟨d, n⟩⟩)) W := fun W => by rw [SameMarks.eq_one, SameMarks.same_one]
        generalize decide ((⟨x0, ⟨x1, x2⟩⟩ : LMark) = ⟨q, ⟨d, n⟩⟩) = bv at *
        go_quiet (fail)
        go_wp2_with fail
        go_meet
        case rel => exact ⟨by rw [HH.out], below_drewN HB.out _⟩
      · have g0 : decide ((k : Int) < (l.length : Int)) = false := by simp; omega
        have HH : Hid (hasM l ⟨q, ⟨d, n⟩⟩ = false) := by
          show _ = _
          unfold hasM
          rw [HAH2.out, List.getElem?_eq_none (by omega)]
        go_quiet (fail)
        go_wp2_with fail
        go_meet
        case rel => exact ⟨by rw [HH.out], below_drewN HB.out _⟩
    case rest =>
      obtain ⟨rfl, HB2⟩ := hcut
      cases hh : hasM l ⟨q, ⟨d, n⟩⟩ with
      | true =>
        have HFE : Hid (withErr l ⟨q, ⟨d, n⟩⟩ = 0 ∧ cutRes l ⟨q, ⟨d, n⟩⟩ = l) := ⟨if_pos hh, if_pos hh⟩
        clear hh
        go_wp2_with fail
        go_ret2
        rw [HFE.out.1, HFE.out.2, giveM, if_pos rfl]
        exact ⟨A, c, rfl, .inr ⟨rfl, rfl, rfl⟩, HBW.out.trans (HB2.out.mono HBW.out.size)⟩
      | false =>
        have hnh : ¬ hasM l ⟨q, ⟨d, n⟩⟩ = true := by rw [hh]; decide
        by_cases hf : 40 ≤ l.length
        · have HFE : Hid (withErr l ⟨q, ⟨d, n⟩⟩ = 4) := by show _ = _; unfold withErr; rw [if_neg hnh, if_pos hf]
          clear hh hnh
          go_wp2_with fail
          go_ret2
          rw [HFE.out, giveM_bad (by decide)]
          exact ⟨none, 0, rfl, .inl (Own.nil _ _ _ _), HBW.out.trans (HB2.out.mono HBW.out.size)⟩
        have HE : Hid (withErr l ⟨q, ⟨d, n⟩⟩ = 0 ∧ cutRes l ⟨q, ⟨d, n⟩⟩ = cutPut l k ⟨q, ⟨d, n⟩⟩) := ⟨by unfold withErr; rw [if_neg hnh, if_neg hf], by unfold cutRes; rw [if_neg hnh, HAH2.out]⟩
        clear hh hnh
        have HRc := Lib.hid (HR.out _ HB2.out)
        have hbkc := HBK.out _ HB2.out
        have HBKc := Lib.hid hbkc
        have b0 : wc.cell? ⟨w.heap.size, 0, none⟩ = some (.string q) := by rw [hbkc.cell]; rfl
        have b1 : wc.cell? ⟨w.heap.size, 1, none⟩ = some (.int .i64 d) := by rw [hbkc.cell]; rfl
        have b2 : wc.cell? ⟨w.heap.size, 2, none⟩ = some (.int .i64 n) := by rw [hbkc.cell]; rfl
        have hz0 : w.heap.size + 1 ≤ wc.heap.size := hbkc.lt
        have hz1 : W0.heap.size ≤ wc.heap.size := HB2.out.size
        have hsl1 := fun W => run_nilslice InsMark.elem A l.length c k (by omega) W
        have hsl2 := fun W => run_tailAt InsMark.elem A l.length c k (by omega) W
        have hF1 : Fits (0 + k) 32 := Fits.of_small (by omega) (by decide)
        have hF2 : Fits (k + 1) 32 := Fits.of_small (by omega) (by decide)
        have hF3 : Fits (k + 1 + (l.length - k)) 32 := Fits.of_small (by omega) (by decide)
        have HT : Hid (Reads wc W0.heap.size 3 A k ((mcells l).take (k * 3))) := HRc.out.head (by omega)
        have HD : Hid (Reads wc W0.heap.size 3 (tailA A c k 3) (l.length - k) ((mcells l).drop (k * 3))) := HRc.out.tail (by omega) hc
        have h1 : OneCells ((mcells l).take (k * 3)) := fun u hu => oneCells_m l u (List.mem_of_mem_take hu)
        have h2 : OneCells ((mcells l).drop (k * 3)) := fun u hu => oneCells_m l u (List.mem_of_mem_drop hu)
        have h3 : OneCells (LMark.cells ⟨q, ⟨d, n⟩⟩) := by intro u hu; simp [LMark.cells] at hu; rcases hu with rfl | rfl | rfl <;> rfl
        have HRX := Lib.hid (fun W : World => Reads.row W 114 #[.string q, .int .i64 d, .int .i64 n])
        clear hbkc hz1
        go_upto_region 10 with (at_builtin; refine wpList_app _ (.tmp 38) (.tmp 41) rfl rfl InsMark.elem rfl rfl (Own.nil _ (w.heap.size + 1) _ 3) HT.out h1 hF1 hz0 ?_; intro V1 c1 w1 hO1 hL1 hG1)
        rw [Nat.zero_add, List.nil_append] at hO1
        have HO1 := Lib.hid hO1
        have HB3 : Hid (Below W0.heap.size W0 w1) := HB2.out.trans (hL1.below (B := W0.heap.size) HB2.out.size (by simp [ob]))
        have hbk1 := HBK.out _ HB3.out
        have HBK1 := Lib.hid hbk1
        have d0 : w1.cell? ⟨w.heap.size, 0, none⟩ = some (.string q) := by rw [hbk1.cell]; rfl
        have d1 : w1.cell? ⟨w.heap.size, 1, none⟩ = some (.int .i64 d) := by rw [hbk1.cell]; rfl
        have d2 : w1.cell? ⟨w.heap.size, 2, none⟩ = some (.int .i64 n) := by rw [hbk1.cell]; rfl
        have hz3 : w.heap.size + 1 ≤ w1.heap.size := hbk1.lt
        have HD1 := Lib.hid (HD.out.keep (w' := w1) (fun p hp => hL1.cell (by have := HB2.out.size; omega) (by simp [ob])))
        clear hO1 hL1 hG1 hbk1 b0 b1 b2
        go_upto_region 11 with (at_builtin; refine wpList_app _ (.tmp 43) (.tmp 45) rfl rfl InsMark.elem rfl rfl (HO1.out.alloc _) (HRX.out w1) h3 hF2 (by simp <;> omega) ?_; intro V2 c2 w2 hO2 hL2 hG2)
        have HO2 := Lib.hid hO2
        have HB4 : Hid (Below w.heap.size w w2) := ((HBW.out.trans (HB3.out.mono HBW.out.size)).alloc (by have := HBW.out.size; have := HB3.out.size; omega) _).trans (hL2.below (by simp <;> omega) (fun g hg => by have := (HO1.out.lt g hg).1; omega))
        have hz4 : w.heap.size + 1 ≤ w2.heap.size := by have := hL2.size; simp at this; omega
        have HD2 : Hid (Reads w2 w.heap.size 3 (tailA A c k 3) (l.length - k) ((mcells l).drop (k * 3))) := by have := HRW.out _ HB4.out; rw [HAH2.out] at this; exact this
        clear hO2 hL2 hG2 d0 d1 d2
        go_wp2_with (at_builtin; refine wpList_app _ (.tmp 47) (.tmp 50) rfl rfl InsMark.elem rfl rfl HO2.out HD2.out h2 hF3 hz4 ?_; intro V3 c3 w3 hO3 hL3 hG3)
        go_ret2
        rw [HE.out.1, HE.out.2, giveM, if_pos rfl]
        have hlen : (cutPut l k ⟨q, ⟨d, n⟩⟩).length = k + 1 + (l.length - k) := by rw [cutPut_len _ _ _ hk]; omega
        have hcl : mcells (cutPut l k ⟨q, ⟨d, n⟩⟩) = ((mcells l).take (k * 3) ++ LMark.cells ⟨q, ⟨d, n⟩⟩) ++ (mcells l).drop (k * 3) := (mcells_put l k ⟨q, ⟨d, n⟩⟩).symm
        refine ⟨V3, c3, by rw [hlen]; simp, .inl ?_, HB4.out.trans (hL3.below HB4.out.size (fun g hg => by have := (HO2.out.lt g hg).1; omega))⟩
        rw [hlen, hcl]
        have := hO3.mono (show w.heap.size ≤ w.heap.size + 1 by omega)
        exact this
end Go.Proofs.YtkaccnegdmpofaaGreatDoor
/- The document's Without, walked. Conditions: few marks, few dots. -/
namespace Go.Proofs.YtkaccnegdmpofaaGreatDoor
open Go.RowKit
set_option linter.unusedVariables false
theorem joinRes_len (l : List LMark) (p : ByteArray) (seen : List LDot) : (joinRes l p seen).length ≤ l.length := List.length_filter_le _ _
theorem joinRes_take {l : List LMark} {p : ByteArray} {seen : List LDot} {k : Nat} (h : k < l.length) : joinRes (l.take (k + 1)) p seen = joinRes (l.take k) p seen ++ (if joined p seen l[k] = true then [] else [l[k]]) := by
  unfold joinRes
  rw [List.take_succ_eq_append_getElem h, List.filter_append]
  congr 1
  cases hj : joined p seen l[k] <;> simp [hj]
def WithoutLoop (w : World) (l : List LMark) (p : ByteArray) (seen : List LDot) (v i : Value) (wr : World) : Prop :=
  ∃ (k cv : Nat) (V : Option Addr), k ≤ l.length ∧ i = .int .i64 k ∧ v = .slice V (joinRes (l.take k) p seen).length cv ∧ Hid (Own wr w.heap.size 114 3 V (joinRes (l.take k) p seen).length cv (mcells (joinRes (l.take k) p seen))) ∧ Hid (Below w.heap.size w wr)
/-- Marks are given back; they are of the call's own. -/
def OwnMarks (w : World) (l : List LMark) (e : Ending) (w' : World) : Prop :=
  ∃ V c, e = .returned (.slice V l.length c) ∧ Own w' w.heap.size 114 3 V l.length c (mcells l) ∧ Below w.heap.size w w'
theorem mcells_append (a b : List LMark) : mcells a ++ mcells b = mcells (a ++ b) := by simp [mcells]
set_option maxRecDepth 100000 in
set_option maxHeartbeats 4000000 in
theorem rwithout_any (w : World) (A : Option Addr) (c : Nat) (l : List LMark) (p : ByteArray) (A2 : Option Addr) (c2 : Nat) (seen : List LDot) (h : Reads w w.heap.size 3 A l.length (mcells l)) (hn : l.length ≤ 1000)
    (h2 : Reads w w.heap.size 2 A2 seen.length (dcells seen)) (hn2 : seen.length ≤ 1000) :
    Calls Tryz.prog 53 #[.slice A l.length c, .string p, .slice A2 seen.length c2] w (OwnMarks w (joinRes l p seen)) := by
  have HR : Hid (∀ W, Below w.heap.size w W → Reads W w.heap.size 3 A l.length (mcells l)) := fun W hb => h.below hb
  have HI := Lib.hid (fun W (hb : Below w.heap.size w W) d => rin_any W A2 c2 seen d ((h2.below hb).more hb.size) hn2)
  clear h h2
  go_enter Tryz.func53, Tryz.ntmps53
  go_wp2_with fail
  go_loopw [7, 8, 9] (fun v i _ wr => WithoutLoop w l p seen v i wr) (fun _ i _ _ => l.length - (intOf i).toNat)
  case atStart => exact ⟨0, 0, none, by omega, rfl, rfl, Own.nil _ _ _ _, Below.refl _ _⟩
  case round =>
    obtain ⟨k, cv, V, hk, rfl, rfl, HO, HB⟩ := hrel
    by_cases hkn : k < l.length
    · obtain ⟨ad, rfl, hb, c0, c1, c2⟩ := (HR.out _ HB.out).mark hkn
      have hlt : (k : Int) < (l.length : Int) := by omega
      have hk0 : (0 : Int) ≤ (k : Int) := by omega
      have hle := joinRes_len (l.take k) p seen
      rw [List.length_take] at hle
      have hle2 : (joinRes (l.take k) p seen).length ≤ k := by omega
      have HTK := Lib.hid (joinRes_take (l := l) (p := p) (seen := seen) hkn)
      have HCE : Hid (∀ W, Below w.heap.size w W → W.cell? (ad.add (k * 3)) = some (.string l[k].place) ∧ W.cell? ⟨(ad.add (k * 3)).block, (ad.add (k * 3)).off + 1, none⟩ = some (.int .i64 l[k].dot.who) ∧ W.cell? ⟨(ad.add (k * 3)).block, (ad.add (k * 3)).off + 2, none⟩ = some (.int .i64 l[k].dot.n)) := fun W hb => by
        obtain ⟨ad2, e, _, e0, e1, e2⟩ := (HR.out _ hb).mark hkn
        injection e with e
        subst e
        exact ⟨e0, e1, e2⟩
      have hszb : w.heap.size ≤ wr.heap.size := HB.out.size
      clear hle
      generalize l[k] = x at c0 c1 c2 HTK HCE
      generalize joinRes (l.take k) p seen = T at HTK hle2 HO ⊢
      obtain ⟨q, ⟨d, n⟩⟩ := x
      simp only at c0 c1 c2 HCE
      have HJ : Hid (joined p seen ⟨q, ⟨d, n⟩⟩ = (decide (q = p) && inD seen ⟨d, n⟩)) := rfl
      have HIN := Lib.hid (HI.out _ HB.out ⟨d, n⟩)
      generalize inD seen ⟨d, n⟩ = bv at HJ HIN
      go_wp2_with fail
      refine HIN.out.mono ?_
      rintro e w1 ⟨rfl, hb1⟩
      have HB1 := Lib.hid (HB.out.trans (hb1.mono HB.out.size))
      have HO1 := Lib.hid (HO.out.below hb1)
      have hz1 : w.heap.size ≤ w1.heap.size := HB1.out.size
      obtain ⟨e0, e1, e2⟩ := HCE.out _ HB1.out
      clear hb1 c0 c1 c2 HCE
      by_cases hj : joined p seen ⟨q, ⟨d, n⟩⟩ = true
      · have HT : Hid (joinRes (l.take (k + 1)) p seen = T) := by show _ = _; rw [HTK.out, if_pos hj, List.append_nil]
        rw [HJ.out, Bool.and_eq_true, decide_eq_true_eq] at hj
        obtain ⟨hp, hbv⟩ := hj
        have g0 : (q.toList == p.toList) = true := by rw [hp]; simp
        have g1 : (q.toList != p.toList) = false := by rw [hp]; simp
        subst hbv
        clear hp HTK HJ
        go_wp2_with fail
        go_roundw
        case rel =>
          refine ⟨k + 1, cv, V, by omega, by go_num, by rw [HT.out], Lib.hid ?_, HB1⟩
          rw [HT.out]
          exact HO1.out
        case measure => simp [intOf]; omega
      · have HT : Hid (joinRes (l.take (k + 1)) p seen = T ++ [⟨q, ⟨d, n⟩⟩]) := by show _ = _; rw [HTK.out, if_neg hj]
        have hF : Fits (T.length + 1) 32 := Fits.of_small (by omega) (by decide)
        have HRX := Lib.hid (Reads.row w1 114 #[.string q, .int .i64 d, .int .i64 n])
        rw [HJ.out] at hj
        clear HTK HJ
        by_cases hp : q = p
        · have hbv : bv = false := by
            cases bv
            · rfl
            · exact absurd (by simp [hp]) hj
          have g0 : (q.toList == p.toList) = true := by rw [hp]; simp
          have g1 : (q.toList != p.toList) = false := by rw [hp]; simp
          subst hbv
          clear hp hj
          go_wp2_with (at_builtin; go_loud (refine wpList_app _ (.tmp 34) (.tmp 39) rfl rfl InsMark.elem rfl rfl (HO1.out.alloc _) HRX.out (oneCells_m [⟨q, ⟨d, n⟩⟩]) hF (by simp; omega) ?_; intro V2 cv2 w2 HO2 HL2 HX2; have HOn := Lib.hid HO2; have HBn : Hid (Below w.heap.size w w2) := (HB1.out.alloc HB1.out.size _).trans (HL2.below (by simp; omega) (fun g hg => (HO1.out.lt g hg).1)); clear HO2 HL2 HX2))
          go_roundw
          case rel =>
            refine ⟨k + 1, cv2, V2, by omega, by go_num, by rw [HT.out, List.length_append]; rfl, Lib.hid ?_, HBn⟩
            rw [HT.out, List.length_append, ← mcells_append]
            exact HOn.out
          case measure => simp [intOf]; omega
        · have g0 : (q.toList == p.toList) = false := by rw [beq_eq_false_iff_ne]; exact fun h => hp (tl_inj h)
          have g1 : (q.toList != p.toList) = true := by rw [bne_iff_ne]; exact fun h => hp (tl_inj h)
          clear hp hj
          go_wp2_with (at_builtin; go_loud (refine wpList_app _ (.tmp 34) (.tmp 39) rfl rfl InsMark.elem rfl rfl (HO1.out.alloc _) HRX.out (oneCells_m [⟨q, ⟨d, n⟩⟩]) hF (by simp; omega) ?_; intro V2 cv2 w2 HO2 HL2 HX2; have HOn := Lib.hid HO2; have HBn : Hid (Below w.heap.size w w2) := (HB1.out.alloc HB1.out.size _).trans (HL2.below (by simp; omega) (fun g hg => (HO1.out.lt g hg).1)); clear HO2 HL2 HX2))
          go_roundw
          case rel =>
            refine ⟨k + 1, cv2, V2, by omega, by go_num, by rw [HT.out, List.length_append]; rfl, Lib.hid ?_, HBn⟩
            rw [HT.out, List.length_append, ← mcells_append]
            exact HOn.out
          case measure => simp [intOf]; omega
    · have hd : decide ((k : Int) < (l.length : Int)) = false := by simp; omega
      have HT : Hid (l.take k = l) := List.take_of_length_le (by omega)
      rw [HT.out] at HO ⊢
      go_wp2_with fail
      go_ret
      exact ⟨V, cv, rfl, HO.out, HB.out⟩
end Go.Proofs.YtkaccnegdmpofaaGreatDoor
/- (*leafref2.Doc).Apply, walked: it does what the program's does. Conditions: the document is right, and says what was done. -/
namespace Go.Proofs.YtkaccnegdmpofaaGreatDoor
open Go.RowKit
set_option linter.unusedVariables false
theorem gone_saw {st : LDoc} (hs : Says st.ops st) (o : LOp) : st.gone o = st.ops.any (sawOp o.place o.dot) := by
  unfold LDoc.gone
  rw [Bool.eq_iff_iff, hs.joined, List.any_eq_true]
  constructor
  · rintro ⟨x, hx, h1, h2, h3⟩
    exact ⟨x, hx, by unfold sawOp; simp [h1, h2, inD_iff, h3]⟩
  · rintro ⟨x, hx, h1⟩
    unfold sawOp at h1
    simp only [Bool.and_eq_true, decide_eq_true_eq, inD_iff] at h1
    exact ⟨x, hx, h1.1, h1.2.1, h1.2.2⟩
theorem has_iff {st : LDoc} (ok : st.Ok) {o : LOp} (h : opErr o = 0) : hasRes st.known o.dot = decide (o.dot.n ≤ nOf st.known o.dot) := by
  unfold hasRes
  rw [LDoc.vd_zero ok h]
  simp
theorem gap_six {st : LDoc} (ok : st.Ok) {o : LOp} (h : opErr o = 0) (h2 : ¬ o.dot.n ≤ nOf st.known o.dot) (h3 : nOf st.known o.dot < o.dot.n - 1) : addErr st.known o.dot = 6 := by
  unfold addErr
  rw [if_neg (by rw [LDoc.vd_zero ok h]; decide), if_neg h2, if_pos h3]
theorem gap_none' {st : LDoc} (ok : st.Ok) {o : LOp} (h : opErr o = 0) (h2 : ¬ o.dot.n ≤ nOf st.known o.dot) (h3 : ¬ nOf st.known o.dot < o.dot.n - 1) : addErr st.known o.dot = 0 := by
  unfold addErr
  rw [if_neg (by rw [LDoc.vd_zero ok h]; decide), if_neg h2, if_neg h3]
def RApplyPost (w : World) (B : Nat) (S : List Nat) (b : Nat) (D : RLay) (is : Bool) (k : Int) (st : LDoc) (e : Ending) (w' : World) : Prop := e = .returned (.tuple #[.bool is, .int .i64 k]) ∧ RDocTo w B S b D st w'
def RTurned (w : World) (B : Nat) (S : List Nat) (b : Nat) (st : LDoc) (D : RLay) (o : LOp) (W0 : World) (v8 v9 v6 : Value) (wx : World) : Prop :=
  ∃ (V1 : Option Addr) (d1 : Nat) (l1 : List LLeaf) (V2 : Option Addr) (d2 : Nat) (l2 : List LMark) (S' : List Nat), v8 = .slice V1 l1.length d1 ∧ v9 = .slice V2 l2.length d2 ∧ v6 = .int .i64 (st.turnE o) ∧ Hid (RTurn w B S b st D o V1 d1 l1 V2 d2 l2 S' wx) ∧ Hid (Below W0.heap.size W0 wx)
section
variable (w : World) (B : Nat) (S : List Nat) (b : Nat) (st : LDoc) (D : RLay) (h : RDocIs w B S b st D) (ok : st.Ok) (hs : Says st.ops st)
include h ok hs
set_option maxRecDepth 100000 in
set_option maxHeartbeats 8000000 in
theorem rapply_doc (o : LOp) (A : Option Addr) (c : Nat) (hp : o.place.size ≤ 9223372036854775807) (hr : Seat w B S (D.turns b) 2 A o.seen.length (dcells o.seen)) :
    Calls Tryz.prog 19 #[.pointer (some ⟨b, 0, none⟩), o.val A c] w (RApplyPost w B S b D (st.applyB o) (st.applyE o) (st.apply o)) := by
  obtain ⟨W0, hW0⟩ : ∃ W0, W0 = w.alloc (.cells (o.cells A c) 48) := ⟨_, rfl⟩
  have HB0 : Hid (Below w.heap.size w W0) := by rw [hW0]; exact (Below.refl _ _).alloc (Nat.le_refl _) _
  have HX : Hid (Blk W0 w.heap.size 48 (o.cells A c)) := by rw [hW0]; exact Blk.new w 48 _
  have HSZ : Hid (W0.heap.size = w.heap.size + 1) := by rw [hW0]; exact World.size_alloc _ _
  have HD := Lib.hid h
  have HR := Lib.hid hr
  have HBT : Hid (∀ W, Below W0.heap.size W0 W → Below w.heap.size w W) := fun W hb => HB0.out.trans (hb.mono HB0.out.size)
  have HOP := Lib.hid (fun W (hb : Below w.heap.size w W) => rop_any W A c o ((hr.row.below hb).more hb.size) hp)
  have HCEL : Hid (∀ W, Below W0.heap.size W0 W → (W.cell? ⟨b, 0, none⟩ = some (.slice D.a1 st.book.length D.c1) ∧ W.cell? ⟨b, 1, none⟩ = some (.slice D.a2 st.marks.length D.c2) ∧ W.cell? ⟨b, 2, none⟩ = some (.slice D.a3 st.known.length D.c3) ∧ W.cell? ⟨b, 3, none⟩ = some (.slice D.a4 st.ops.length D.c4)) ∧
      (W.cell? ⟨w.heap.size, 0, none⟩ = some (.int .i64 o.dot.who) ∧ W.cell? ⟨w.heap.size, 1, none⟩ = some (.int .i64 o.dot.n) ∧ W.cell? ⟨w.heap.size, 2, none⟩ = some (.int .i64 o.what) ∧ W.cell? ⟨w.heap.size, 3, none⟩ = some (.string o.place) ∧ W.cell? ⟨w.heap.size, 4, none⟩ = some (.int .i64 o.letter) ∧ W.cell? ⟨w.heap.size, 5, none⟩ = some (.slice A o.seen.length c))) := fun W hb => by
    have h1 := (h.below (HBT.out W hb)).blk
    have h2 := HX.out.below hb (by have := HSZ.out; omega)
    exact ⟨⟨by rw [h1.cell]; rfl, by rw [h1.cell]; rfl, by rw [h1.cell]; rfl, by rw [h1.cell]; rfl⟩, by rw [h2.cell]; rfl, by rw [h2.cell]; rfl, by rw [h2.cell]; rfl, by rw [h2.cell]; rfl, by rw [h2.cell]; rfl, by rw [h2.cell]; rfl⟩
  have HBR : Hid (Below W0.heap.size W0 W0) := Below.refl _ _
  have hBb : B ≤ b ∧ b < w.heap.size := h.own b (h.sub b (by simp [RLay.turns]))
  have HOK := Lib.hid ok
  have HSY := Lib.hid hs
  have hfew := ok.few
  have hk8 := (vec_ok ok.known).1
  clear h hr ok hs
  by_cases h1 : opErr o = 0
  · obtain ⟨o1, o2, o3, o4, o5, o6, o7, o8⟩ := op_ok h1
    obtain ⟨k, hk, hw, n1, n2⟩ := dot_in o1
    have O6 := Lib.hid o6
    have O5 := Lib.hid o5
    have O7 := Lib.hid o7
    have O8 := Lib.hid o8
    clear o4 o5 o6 o7 o8
    have hkl : k < st.known.length := by omega
    have HNO : Hid (nOf st.known o.dot = st.known[k]) := by
      show _ = _
      have := nOf_at (n := o.dot.n) hkl
      rw [← this]
      unfold nOf
      simp only
      rw [hw]
    obtain ⟨g3, hg3, _, _⟩ := HD.out.known.head (by omega)
    have HK3 : Hid (∀ W, Below W0.heap.size W0 W → W.cell? ⟨g3, k, none⟩ = some (.int .i64 st.known[k])) := fun W hb => by
      have h2 := (HD.out.below (HBT.out W hb)).known
      rw [hg3] at h2
      rw [h2.cellAt (by omega), ints_at hkl]
    have HE1 := Lib.hid h1
    have HG3 := Lib.hid hg3
    rw [h1] at HOP
    have hkn := (vec_ok HOK.out.known).2 _ (List.getElem_mem hkl)
    have HHAS := Lib.hid (has_iff HOK.out h1)
    have HSIX := Lib.hid (gap_six HOK.out h1)
    have HGAP := Lib.hid (gap_none' HOK.out h1)
    rw [hg3] at HCEL
    generalize hN : st.known[k] = N at *
    have HNN := Lib.hid hN
    clear hN
    have HK8 := Lib.hid hk8
    clear hk8
    obtain ⟨⟨who, n⟩, what, p, letter, seen⟩ := o
    unfold LOp.val at *
    unfold LOp.cells at hW0 HX
    simp only at *
    subst hw
    obtain ⟨⟨c0, c1, c2, c3⟩, j0, j1, j2, j3, j4, j5⟩ := HCEL.out _ HBR.out
    go_enter Tryz.func19, Tryz.ntmps19
    go_wp2_with fail
    rw [← hW0]
    clear hW0
    refine (HOP.out _ HB0.out).mono ?_
    rintro e w1 ⟨rfl, hb1⟩
    have HB1 := Lib.hid hb1
    clear hb1 c0 c1 c2 c3 j0 j1 j2 j3 j4 j5
    obtain ⟨⟨c0, c1, c2, c3⟩, j0, j1, j2, j3, j4, j5⟩ := HCEL.out _ HB1.out
    have e0 := HK3.out _ HB1.out
    have k0 : (0 : Int) ≤ (k : Int) := by omega
    have k1 : (k : Int) < (st.known.length : Int) := by omega
    have q1 : IntKind.i64.wrap ((k : Int) + 1 - 1) = (k : Int) := by rw [IntWalk.i64_in _ (by omega)]; omega
    go_wp2_with fail
    go_quiet (fail)
    have HB2 : Hid (Below W0.heap.size W0 (w1.drewN nq)) := below_drewN HB1.out nq
    generalize w1.drewN nq = w2 at *
    clear c0 c1 c2 c3 j0 j1 j2 j3 j4 j5 e0
    obtain ⟨⟨c0, c1, c2, c3⟩, j0, j1, j2, j3, j4, j5⟩ := HCEL.out _ HB2.out
    have q2 : IntKind.i64.wrap (n - 1) = n - 1 := IntWalk.i64_in _ (by omega)
    by_cases h2 : N ≥ n
    · obtain ⟨a1, a2, a3⟩ := LDoc.apply_has HOK.out HE1.out (by rw [HHAS.out, HNO.out]; simp; omega)
      have HA := Lib.hid (And.intro a1 (And.intro a2 a3))
      clear a1 a2 a3
      go_wp2_with fail
      go_ret2
      exact ⟨by rw [HA.out.1, HA.out.2.1]; rfl, by rw [HA.out.2.2]; exact HD.out.to_self (HBT.out _ HB2.out)⟩
    · by_cases h3 : N < n - 1
      · obtain ⟨a1, a2, a3⟩ := LDoc.apply_bad2 HOK.out HE1.out (by rw [HHAS.out, HNO.out]; simp; omega) (by rw [HSIX.out (by rw [HNO.out]; omega) (by rw [HNO.out]; omega)]; decide)
        rw [HSIX.out (by rw [HNO.out]; omega) (by rw [HNO.out]; omega)] at a1
        have HA := Lib.hid (And.intro a1 (And.intro a2 a3))
        clear a1 a2 a3
        go_wp2_with fail
        go_ret2
        exact ⟨by rw [HA.out.1, HA.out.2.1]; rfl, by rw [HA.out.2.2]; exact HD.out.to_self (HBT.out _ HB2.out)⟩
      · by_cases h4 : 400 ≤ st.ops.length
        · obtain ⟨a1, a2, a3⟩ := LDoc.apply_full HOK.out HE1.out (by rw [HHAS.out, HNO.out]; simp; omega) (HGAP.out (by rw [HNO.out]; omega) (by rw [HNO.out]; omega)) h4
          have HA := Lib.hid (And.intro a1 (And.intro a2 a3))
          have l4 : (st.ops.length : Int) ≥ 400 := by omega
          clear a1 a2 a3
          go_wp2_with fail
          go_ret2
          exact ⟨by rw [HA.out.1, HA.out.2.1]; rfl, by rw [HA.out.2.2]; exact HD.out.to_self (HBT.out _ HB2.out)⟩
        · have l4 : ¬ (st.ops.length : Int) ≥ 400 := by omega
          have l5 : decide ((st.ops.length : Int) ≥ 400) = false := decide_eq_false l4
          go_upto_block 0 with (fail)
          go_cut [8, 9, 6] (fun v8 v9 v6 wx => RTurned w B S b st D ⟨⟨(k : Int) + 1, n⟩, what, p, letter, seen⟩ W0 v8 v9 v6 wx)
          case first => as_aux_lemma =>
            have HBOOK := Lib.hid (fun W (hb : Below W0.heap.size W0 W) => (HD.out.below (HBT.out W hb)).book.row)
            have HMARK := Lib.hid (fun W (hb : Below W0.heap.size W0 W) => (HD.out.below (HBT.out W hb)).marks.row)
            have HSIZE := Lib.hid (fun W (hb : Below W0.heap.size W0 W) => (HBT.out W hb).size)
            have HBS : Hid (B ≤ w.heap.size) := by show _ ≤ _; omega
            by_cases w1' : what = 1
            · subst w1'
              have HWR := Lib.hid (fun W (hb : Below W0.heap.size W0 W) => rwrite_any W D.a1 D.c1 st.book p letter (HBOOK.out W hb) HOK.out.book HD.out.bookc.1 HD.out.bookc.2)
              have hrdy : bookReady st.book p = 0 := by unfold bookReady; rw [if_neg (fun x => x (bookErr_zero HOK.out.book)), o3]
              have HTE : Hid (st.turnE ⟨⟨(k : Int) + 1, n⟩, 1, p, letter, seen⟩ = rwErr st.book p letter) := by
                show _ = _
                unfold LDoc.turnE
                rw [if_pos rfl, writeErr_ready hrdy]
              have HTU : Hid (rwErr st.book p letter = 0 → (st.turn ⟨⟨(k : Int) + 1, n⟩, 1, p, letter, seen⟩).book = giveL (rwErr st.book p letter) (writeRes st.book p letter) ∧ (st.turn ⟨⟨(k : Int) + 1, n⟩, 1, p, letter, seen⟩).marks = st.marks) := fun hz => by
                unfold LDoc.turn
                rw [if_pos rfl, if_pos (by show writeErr st.book p letter = 0; rw [writeErr_ready hrdy]; exact hz)]
                exact ⟨by unfold giveL; rw [if_pos hz], rfl⟩
              clear hrdy
              go_wp2_with fail
              go_region_held3 (fun w' => w'.cell? ⟨b, 0, none⟩ = some (.slice D.a1 st.book.length D.c1) ∧ w'.cell? ⟨w.heap.size, 3, none⟩ = some (.string p) ∧ w'.cell? ⟨w.heap.size, 4, none⟩ = some (.int .i64 letter))
                (first | go_keep | (refine ⟨?_, ?_, ?_⟩ <;> assumption))
                ((go_at_call 49; refine (HWR.out _ (by first | exact HB2.out | exact below_drewN HB2.out _ | exact HB2.out.drew)).mono ?_; rintro e w3 ⟨V, cV, rfl, hO, hb3⟩
                  have HB3 : Hid (Below W0.heap.size W0 w3) := HB2.out.trans (Below.mono (by first | exact hb3 | exact below_of_drewN (n := 1) hb3) HB2.out.size)
                  have HO3 := Lib.hid (hO.mono (show w.heap.size ≤ _ from (HBT.out _ HB2.out).size))
                  clear c0 c1 c2 c3 j0 j1 j2 j3 j4 j5
                  obtain ⟨⟨c0, c1, c2, c3⟩, j0, j1, j2, j3, j4, j5⟩ := HCEL.out _ HB3.out
                  clear hb3 hO))
              go_wp2_with fail
              go_meet
              case rel => exact ⟨_, _, _, _, _, _, _, rfl, rfl, by rw [HTE.out], RTurn.book_ HD.out (HBT.out _ HB3.out) HO3.out HBS.out (fun hz => by
                obtain ⟨t1, t2⟩ := HTU.out (by rw [← HTE.out]; exact hz)
                exact ⟨t1.symm, t2.symm⟩), HB3⟩
            · have n1' : (what == 1) = false := by simpa using w1'
              by_cases w2' : what = 2
              · subst w2'
                have HWR := Lib.hid (fun W (hb : Below W0.heap.size W0 W) => rstrike_any W D.a1 D.c1 st.book p (HBOOK.out W hb) HOK.out.book HD.out.bookc.1 HD.out.bookc.2)
                have hrdy : bookReady st.book p = 0 := by unfold bookReady; rw [if_neg (fun x => x (bookErr_zero HOK.out.book)), o3]
                have HTE : Hid (st.turnE ⟨⟨(k : Int) + 1, n⟩, 2, p, letter, seen⟩ = rsErr st.book p) := by
                  show _ = _
                  unfold LDoc.turnE
                  rw [if_neg (by simp), if_pos rfl, strikeErr_ready hrdy]
                have HTU : Hid (rsErr st.book p = 0 → (st.turn ⟨⟨(k : Int) + 1, n⟩, 2, p, letter, seen⟩).book = giveL (rsErr st.book p) (strikeRes st.book p) ∧ (st.turn ⟨⟨(k : Int) + 1, n⟩, 2, p, letter, seen⟩).marks = st.marks) := fun hz => by
                  unfold LDoc.turn
                  rw [if_neg (by simp), if_pos rfl, if_pos (by show strikeErr st.book p = 0; rw [strikeErr_ready hrdy]; exact hz)]
                  exact ⟨by unfold giveL; rw [if_pos hz], rfl⟩
                clear hrdy
                go_wp2_with fail
                go_region_held3 (fun w' => w'.cell? ⟨b, 0, none⟩ = some (.slice D.a1 st.book.length D.c1) ∧ w'.cell? ⟨w.heap.size, 3, none⟩ = some (.string p))
                  (first | go_keep | (refine ⟨?_, ?_⟩ <;> assumption))
                  ((go_at_call 50; refine (HWR.out _ (by first | exact HB2.out | exact below_drewN HB2.out _ | exact HB2.out.drew)).mono ?_; rintro e w3 ⟨V, cV, rfl, hO, hb3⟩
                    have HB3 : Hid (Below W0.heap.size W0 w3) := HB2.out.trans (Below.mono (by first | exact hb3 | exact below_of_drewN (n := 1) hb3) HB2.out.size)
                    have HO3 := Lib.hid (hO.mono (show w.heap.size ≤ _ from (HBT.out _ HB2.out).size))
                    clear c0 c1 c2 c3 j0 j1 j2 j3 j4 j5
                    obtain ⟨⟨c0, c1, c2, c3⟩, j0, j1, j2, j3, j4, j5⟩ := HCEL.out _ HB3.out
                    clear hb3 hO))
                go_wp2_with fail
                go_meet
                case rel => exact ⟨_, _, _, _, _, _, _, rfl, rfl, by rw [HTE.out], RTurn.book_ HD.out (HBT.out _ HB3.out) HO3.out HBS.out (fun hz => by
                  obtain ⟨t1, t2⟩ := HTU.out (by rw [← HTE.out]; exact hz)
                  exact ⟨t1.symm, t2.symm⟩), HB3⟩
              · have n2' : (what == 2) = false := by simpa using w2'
                by_cases w3' : what = 3
                · subst w3'
                  have HSE := Lib.hid (fun W (hb : Below W0.heap.size W0 W) => rseen_doc W B S b st D (HD.out.below (HBT.out W hb)) HOK.out p ⟨(k : Int) + 1, n⟩)
                  have hgs := gone_saw HSY.out ⟨⟨(k : Int) + 1, n⟩, 3, p, letter, seen⟩
                  simp only at hgs
                  rw [← hgs] at HSE
                  cases hgo : st.gone ⟨⟨(k : Int) + 1, n⟩, 3, p, letter, seen⟩ with
                  | true =>
                    rw [hgo] at HSE
                    have HTE : Hid (st.turnE ⟨⟨(k : Int) + 1, n⟩, 3, p, letter, seen⟩ = 0) := by
                      show _ = _
                      unfold LDoc.turnE
                      rw [if_neg (by simp), if_neg (by simp), if_pos rfl]
                      unfold LDoc.cutE
                      rw [if_pos hgo]
                    have HTU : Hid (st.turn ⟨⟨(k : Int) + 1, n⟩, 3, p, letter, seen⟩ = st) := by
                      show _ = _
                      unfold LDoc.turn
                      rw [if_neg (by simp), if_neg (by simp), if_pos rfl]
                      unfold LDoc.cut
                      rw [if_pos hgo]
                    clear hgs hgo
                    go_wp2_with fail
                    refine (HSE.out _ HB2.out).mono ?_
                    rintro e w3 ⟨rfl, hb3⟩
                    have HB3 : Hid (Below W0.heap.size W0 w3) := HB2.out.trans (hb3.mono HB2.out.size)
                    clear hb3
                    go_wp2_with fail
                    go_meet
                    case rel => exact ⟨_, _, _, _, _, _, _, rfl, rfl, by rw [HTE.out], RTurn.stays HD.out (HBT.out _ HB3.out) (fun _ => by rw [HTU.out]; exact ⟨rfl, rfl⟩), HB3⟩
                  | false =>
                    rw [hgo] at HSE
                    have hmk : markErr (⟨p, ⟨(k : Int) + 1, n⟩⟩ : LMark) = 0 := by unfold markErr; simp only; rw [if_neg (by rw [o3]; decide)]; exact o1
                    have hce : cutErr st.marks ⟨p, ⟨(k : Int) + 1, n⟩⟩ = withErr st.marks ⟨p, ⟨(k : Int) + 1, n⟩⟩ := by
                      unfold cutErr withErr
                      rw [if_neg (fun x => x (marks_zero HOK.out.marks)), if_neg (by rw [hmk]; decide)]
                    have HWI := Lib.hid (fun W (hb : Below W0.heap.size W0 W) => rwith_any W D.a2 D.c2 st.marks ⟨p, ⟨(k : Int) + 1, n⟩⟩ (HMARK.out W hb) HOK.out.marks HD.out.marksc.1 HD.out.marksc.2)
                    have HTE : Hid (st.turnE ⟨⟨(k : Int) + 1, n⟩, 3, p, letter, seen⟩ = withErr st.marks ⟨p, ⟨(k : Int) + 1, n⟩⟩) := by
                      show _ = _
                      unfold LDoc.turnE
                      rw [if_neg (by simp), if_neg (by simp), if_pos rfl]
                      unfold LDoc.cutE
                      rw [if_neg (by rw [hgo]; decide), ← hce]
                    have HTU : Hid (withErr st.marks ⟨p, ⟨(k : Int) + 1, n⟩⟩ = 0 → (st.turn ⟨⟨(k : Int) + 1, n⟩, 3, p, letter, seen⟩).book = st.book ∧ (st.turn ⟨⟨(k : Int) + 1, n⟩, 3, p, letter, seen⟩).marks = giveM (withErr st.marks ⟨p, ⟨(k : Int) + 1, n⟩⟩) (cutRes st.marks ⟨p, ⟨(k : Int) + 1, n⟩⟩)) := fun hz => by
                      unfold LDoc.turn
                      rw [if_neg (by simp), if_neg (by simp), if_pos rfl]
                      unfold LDoc.cut
                      rw [if_neg (by rw [hgo]; decide), if_pos (by show cutErr st.marks ⟨p, ⟨(k : Int) + 1, n⟩⟩ = 0; rw [hce]; exact hz)]
                      exact ⟨rfl, by unfold giveM; rw [if_pos hz]⟩
                    clear hgs hgo hce hmk
                    go_wp2_with fail
                    refine (HSE.out _ HB2.out).mono ?_
                    rintro e w3 ⟨rfl, hb3⟩
                    have HB3 : Hid (Below W0.heap.size W0 w3) := HB2.out.trans (hb3.mono HB2.out.size)
                    clear hb3 c0 c1 c2 c3 j0 j1 j2 j3 j4 j5
                    obtain ⟨⟨c0, c1, c2, c3⟩, j0, j1, j2, j3, j4, j5⟩ := HCEL.out _ HB3.out
                    go_wp2_with fail
                    go_region_held3 (fun w' => w'.cell? ⟨b, 1, none⟩ = some (.slice D.a2 st.marks.length D.c2) ∧ w'.cell? ⟨w.heap.size, 0, none⟩ = some (.int .i64 ((k : Int) + 1)) ∧ w'.cell? ⟨w.heap.size, 1, none⟩ = some (.int .i64 n) ∧ w'.cell? ⟨w.heap.size, 3, none⟩ = some (.string p))
                      (first | go_keep | (refine ⟨?_, ?_, ?_, ?_⟩ <;> assumption))
                      ((go_at_call 52; refine (HWI.out _ (by first | exact HB3.out | exact below_drewN HB3.out _ | exact HB3.out.drew)).mono ?_; rintro e w4 ⟨V, cV, rfl, hO, hb4⟩
                        have HB4 : Hid (Below W0.heap.size W0 w4) := HB3.out.trans (Below.mono (by first | exact hb4 | exact below_of_drewN (n := 1) hb4) HB3.out.size)
                        have HO4 := Lib.hid (hO.imp (fun hO => hO.mono (show w.heap.size ≤ _ from (HBT.out _ HB3.out).size)) id)
                        clear c0 c1 c2 c3 j0 j1 j2 j3 j4 j5
                        obtain ⟨⟨c0, c1, c2, c3⟩, j0, j1, j2, j3, j4, j5⟩ := HCEL.out _ HB4.out
                        clear hb4 hO))
                    go_wp2_with fail
                    go_meet
                    case rel =>
                      rcases HO4.out with h5 | ⟨e1, e2, e3⟩
                      · exact ⟨_, _, _, _, _, _, _, rfl, rfl, by rw [HTE.out], RTurn.marks_ HD.out (HBT.out _ HB4.out) h5 HBS.out (fun hz => by
                          obtain ⟨t1, t2⟩ := HTU.out (by rw [← HTE.out]; exact hz)
                          exact ⟨t1.symm, t2.symm⟩), HB4⟩
                      · subst e1 e2
                        exact ⟨_, _, _, _, _, _, _, rfl, by rw [e3], by rw [HTE.out], RTurn.stays HD.out (HBT.out _ HB4.out) (fun hz => by
                          obtain ⟨t1, t2⟩ := HTU.out (by rw [← HTE.out]; exact hz)
                          exact ⟨t1.symm, by rw [t2, e3]⟩), HB4⟩
                · have n3' : (what == 3) = false := by simpa using w3'
                  obtain rfl : what = 4 := by omega
                  have HWO := Lib.hid (fun W (hb : Below W0.heap.size W0 W) => rwithout_any W D.a2 D.c2 st.marks p A c seen (HMARK.out W hb) (by have := HOK.out.marks.few; omega) (HR.out.row.below (HBT.out W hb) |>.more (HBT.out W hb).size) (by have := O7.out; omega))
                  have hje : st.joinE ⟨⟨(k : Int) + 1, n⟩, 4, p, letter, seen⟩ = 0 := by
                    unfold LDoc.joinE joinErr
                    simp only
                    rw [if_neg (fun x => x (marks_zero HOK.out.marks)), if_neg (by rw [o3]; decide), if_neg (by have := O7.out; omega)]
                    exact O8.out
                  have HTE : Hid (st.turnE ⟨⟨(k : Int) + 1, n⟩, 4, p, letter, seen⟩ = 0) := by
                    show _ = _
                    unfold LDoc.turnE
                    rw [if_neg (by simp), if_neg (by simp), if_neg (by simp), if_pos rfl, hje]
                  have HTU : Hid ((st.turn ⟨⟨(k : Int) + 1, n⟩, 4, p, letter, seen⟩).book = st.book ∧ (st.turn ⟨⟨(k : Int) + 1, n⟩, 4, p, letter, seen⟩).marks = joinRes st.marks p seen) := by
                    unfold LDoc.turn
                    rw [if_neg (by simp), if_neg (by simp), if_neg (by simp), if_pos rfl]
                    unfold LDoc.join
                    rw [if_pos hje]
                    exact ⟨rfl, rfl⟩
                  clear hje
                  go_wp2_with fail
                  go_region_held3 (fun w' => w'.cell? ⟨b, 1, none⟩ = some (.slice D.a2 st.marks.length D.c2) ∧ w'.cell? ⟨w.heap.size, 3, none⟩ = some (.string p) ∧ w'.cell? ⟨w.heap.size, 5, none⟩ = some (.slice A seen.length c))
                    (first | go_keep | (refine ⟨?_, ?_, ?_⟩ <;> assumption))
                    ((go_at_call 53; refine (HWO.out _ (by first | exact HB2.out | exact below_drewN HB2.out _ | exact HB2.out.drew)).mono ?_; rintro e w3 ⟨V, cV, rfl, hO, hb3⟩
                      have HB3 : Hid (Below W0.heap.size W0 w3) := HB2.out.trans (Below.mono (by first | exact hb3 | exact below_of_drewN (n := 1) hb3) HB2.out.size)
                      have HO3 := Lib.hid (hO.mono (show w.heap.size ≤ _ from (HBT.out _ HB2.out).size))
                      clear c0 c1 c2 c3 j0 j1 j2 j3 j4 j5
                      obtain ⟨⟨c0, c1, c2, c3⟩, j0, j1, j2, j3, j4, j5⟩ := HCEL.out _ HB3.out
                      clear hb3 hO))
                  go_wp2_with fail
                  go_meet
                  case rel => exact ⟨_, _, _, _, _, _, _, rfl, rfl, by rw [HTE.out], RTurn.marks_ HD.out (HBT.out _ HB3.out) HO3.out HBS.out (fun _ => ⟨HTU.out.1.symm, HTU.out.2.symm⟩), HB3⟩
          case rest =>
            obtain ⟨V1, d1, l1, V2, d2, l2, S', rfl, rfl, rfl, HT, HBC⟩ := hcut
            obtain ⟨w4, hw4⟩ : ∃ x : World, x = wc := ⟨_, rfl⟩
            subst hw4
            clear c0 c1 c2 c3 j0 j1 j2 j3 j4 j5
            obtain ⟨⟨c0, c1, c2, c3⟩, j0, j1, j2, j3, j4, j5⟩ := HCEL.out _ HBC.out
            by_cases hz : st.turnE ⟨⟨(k : Int) + 1, n⟩, what, p, letter, seen⟩ = 0
            · obtain ⟨a1, a2, a3⟩ := LDoc.apply_good HOK.out HE1.out (by rw [HHAS.out, HNO.out]; simp; omega) (HGAP.out (by rw [HNO.out]; omega) (by rw [HNO.out]; omega)) (by omega) hz
              have HA := Lib.hid (And.intro a1 (And.intro a2 a3))
              have HZ := Lib.hid hz
              rw [hz]
              clear a1 a2 a3 hz
              have hd5 := (HD.out.below (HBT.out _ HBC.out)).setBook HT.out.sub HT.out.own HT.out.book HT.out.bookc
              have ho5 : Only [b] w4 (w4.setCell ⟨b, 0, none⟩ (.slice V1 l1.length d1)) := (Only.refl _ _).setCell (.inl (by simp)) _
              have hm5 := HT.out.marks.turned ho5 (by simp [RLay.turns])
              have hd6 := hd5.setMarks (S' := S') (fun g hg => hg) hd5.own hm5 HT.out.marksc
              have ho6 : Only (D.turns b) w ((w4.setCell ⟨b, 0, none⟩ (.slice V1 l1.length d1)).setCell ⟨b, 1, none⟩ (.slice V2 l2.length d2)) := ((Only.of_below (HBT.out _ HBC.out)).setCell (.inl (by simp [RLay.turns])) _).setCell (.inl (by simp [RLay.turns])) _
              have hbb : b ≠ w.heap.size := by omega
              have HX4 := HX.out.below HBC.out (by have := HSZ.out; omega)
              have HX6 : Hid (Blk ((w4.setCell ⟨b, 0, none⟩ (.slice V1 l1.length d1)).setCell ⟨b, 1, none⟩ (.slice V2 l2.length d2)) w.heap.size 48 _) := (HX4.far (p := ⟨b, 0, none⟩) (Ne.symm hbb) _).far (p := ⟨b, 1, none⟩) (Ne.symm hbb) _
              have fr0 := ((HD.out.below (HBT.out _ HBC.out)).blk).frozen 0
              have fr1 := hd5.blk.frozen 1
              have HD6 := Lib.hid hd6
              have HO6 := Lib.hid ho6
              clear hd5 ho5 hm5 hd6 ho6 HX4 q1 q2
              go_wp2_with fail
              obtain ⟨w6, hw6⟩ : ∃ x, x = (w4.setCell ⟨b, 0, none⟩ (.slice V1 l1.length d1)).setCell ⟨b, 1, none⟩ (.slice V2 l2.length d2) := ⟨_, rfl⟩
              rw [← hw6] at HX6 HD6 HO6
              rw [← hw6]
              clear hw6 c0 c1 c2 c3 j0 j1 j2 j3 j4 j5 fr0 fr1 HBC HOP HCEL
              have HTN := Lib.hid HT.out.new_
              have HTS := Lib.hid HT.out.sub
              have HTK := Lib.hid HT.out.ok
              clear HT
              have HG6 : Hid (({ { D with a1 := V1, c1 := d1 } with a2 := V2, c2 := d2 } : RLay).a3 = some ⟨g3, 0, none⟩) := HG3.out
              obtain ⟨csk, hcsk⟩ := HD6.out.a3_blk HG6.out
              have hgb : g3 ≠ b := fun e => HD6.out.b3 (by show b ∈ ob D.a3; rw [HG3.out]; simp [ob, e])
              have hgx : g3 ≠ w.heap.size := by
                have := (HD6.out.own g3 (HD6.out.sub g3 (by show g3 ∈ b :: (ob D.a3 ++ ob D.a4); rw [HG3.out]; simp [ob]))).2
                have h2 := (HD.out.known.lt g3 (by rw [HG3.out]; simp [ob])).2
                omega
              have c2 : w6.cell? ⟨b, 2, none⟩ = some (.slice (some ⟨g3, 0, none⟩) st.known.length D.c3) := by rw [HD6.out.blk.cell, ← HG3.out]; rfl
              have j0 : w6.cell? ⟨w.heap.size, 0, none⟩ = some (.int .i64 ((k : Int) + 1)) := by rw [HX6.out.cell]; rfl
              have j1 : w6.cell? ⟨w.heap.size, 1, none⟩ = some (.int .i64 n) := by rw [HX6.out.cell]; rfl
              have e0 : w6.cell? ⟨g3, k, none⟩ = some (.int .i64 N) := by
                have h2 := HD6.out.known
                rw [HG6.out] at h2
                rw [h2.cellAt (by show k < st.known.length * 1; omega), ints_at hkl, HNN.out]
              have fk : w6.frozen? ⟨g3, k, none⟩ = false := hcsk.frozen k
              have HD7 := Lib.hid (HD6.out.setKnown (k := k) HG6.out hkl n)
              have HO7 : Hid (Only (D.turns b) w (w6.setCell ⟨g3, k, none⟩ (.int .i64 n))) := HO6.out.setCell (.inl (by show g3 ∈ b :: (ob D.a3 ++ ob D.a4); rw [HG3.out]; simp [ob])) _
              have HX7 : Hid (Blk (w6.setCell ⟨g3, k, none⟩ (.int .i64 n)) w.heap.size 48 _) := HX6.out.far (p := ⟨g3, k, none⟩) (Ne.symm hgx) _
              have s0 := far_drew2 (p := ⟨g3, k, none⟩) (u := .int .i64 n) c2 hgb
              have s1 := far_drew2 (p := ⟨g3, k, none⟩) (u := .int .i64 n) j0 hgx
              have s2 := far_drew2 (p := ⟨g3, k, none⟩) (u := .int .i64 n) j1 hgx
              clear hcsk
              have q1 : IntKind.i64.wrap ((k : Int) + 1 - 1) = (k : Int) := by rw [IntWalk.i64_in _ (by omega)]; omega
              have q4 : (k : Int).toNat = k := by omega
              have q5 : IntKind.i64.wrap (k : Int) = (k : Int) := IntWalk.i64_in _ (by omega)
              have k0 : (0 : Int) ≤ (k : Int) := by omega
              have k1 : (k : Int) < (st.known.length : Int) := by omega
              have k2 : (0 : Int) ≤ (k : Int) ∧ (k : Int) < (st.known.length : Int) := ⟨k0, k1⟩
              go_region_held3 (fun w' => w'.cell? ⟨b, 2, none⟩ = some (.slice (some ⟨g3, 0, none⟩) st.known.length D.c3) ∧ w'.cell? ⟨w.heap.size, 0, none⟩ = some (.int .i64 ((k : Int) + 1)) ∧ w'.cell? ⟨w.heap.size, 1, none⟩ = some (.int .i64 n))
                (first | go_keep | (refine ⟨?_, ?_, ?_⟩ <;> assumption))
                (fail)
              obtain ⟨w7, hw7⟩ : ∃ x, x = (w6.setCell ⟨g3, k, none⟩ (.int .i64 n)).drew := ⟨_, rfl⟩
              have hd7 : RDocIs (w6.setCell ⟨g3, k, none⟩ (.int .i64 n)).drew B S' b { ({ ({ st with book := l1 } : LDoc) with marks := l2 } : LDoc) with known := st.known.set k n } ({ ({ D with a1 := V1, c1 := d1 } : RLay) with a2 := V2, c2 := d2 } : RLay) := HD7.out.drewN 1
              rw [← hw7] at hd7
              have HD7' := Lib.hid hd7
              have HO7' : Hid (Only (D.turns b) w w7) := by rw [hw7]; exact HO7.out.drew
              have HX7' : Hid (Blk w7 w.heap.size 48 #[.int .i64 ((k : Int) + 1), .int .i64 n, .int .i64 what, .string p, .int .i64 letter, .slice A seen.length c]) := by rw [hw7]; exact HX7.out.drew
              rw [← hw7]
              clear hw7 hd7 HD7 HO7 HX7 s0 s1 s2 c2 j0 j1 e0 fk
              have j0 : w7.cell? ⟨w.heap.size, 0, none⟩ = some (.int .i64 ((k : Int) + 1)) := by rw [HX7'.out.cell]; rfl
              have j1 : w7.cell? ⟨w.heap.size, 1, none⟩ = some (.int .i64 n) := by rw [HX7'.out.cell]; rfl
              have j2 : w7.cell? ⟨w.heap.size, 2, none⟩ = some (.int .i64 what) := by rw [HX7'.out.cell]; rfl
              have j3 : w7.cell? ⟨w.heap.size, 3, none⟩ = some (.string p) := by rw [HX7'.out.cell]; rfl
              have j4 : w7.cell? ⟨w.heap.size, 4, none⟩ = some (.int .i64 letter) := by rw [HX7'.out.cell]; rfl
              have j5 : w7.cell? ⟨w.heap.size, 5, none⟩ = some (.slice A seen.length c) := by rw [HX7'.out.cell]; rfl
              have k3 : w7.cell? ⟨b, 3, none⟩ = some (.slice D.a4 st.ops.length D.c4) := by rw [HD7'.out.blk.cell]; rfl
              have k3a : (w7.alloc (.cells #[.int .i64 ((k : Int) + 1), .int .i64 n, .int .i64 what, .string p, .int .i64 letter, .slice A seen.length c] 48)).cell? ⟨b, 3, none⟩ = some (.slice D.a4 st.ops.length D.c4) := by rw [(HD7'.out.blk.alloc _).cell]; rfl
              have hB7 : B ≤ w7.heap.size := by have := HO7'.out.size; omega
              have HONE : Hid (OneCells [Value.int .i64 ((k : Int) + 1), .int .i64 n, .int .i64 what, .string p, .int .i64 letter, .slice A seen.length c]) := by
                show OneCells _
                intro u hu
                simp only [List.mem_cons, List.not_mem_nil, or_false] at hu
                rcases hu with rfl | rfl | rfl | rfl | rfl | rfl <;> rfl
              have HFIT : Hid (Fits (st.ops.length + 1) 72) := Fits.of_small (by omega) (by decide)
              have hb4 : b ∉ ob D.a4 := HD7'.out.b4
              go_wp2_with fail
              go_region_law ((
                refine step_app _ (.tmp 140) (.tmp 142) rfl rfl elemO_ rfl rfl ((HD7'.out.ops.drew).alloc _) (Reads.row w7.drew 48 #[.int .i64 ((k : Int) + 1), .int .i64 n, .int .i64 what, .string p, .int .i64 letter, .slice A seen.length c]) HONE.out HFIT.out (by simp; omega) ?_
                intro V cV w8 hO hL hg
                have hb8 := hL.blk ((HD7'.out.blk.drew).alloc _) hb4
                have n3 : w8.cell? ⟨b, 3, none⟩ = some (.slice D.a4 st.ops.length D.c4) := by { rw [hb8.cell]; rfl }
                have m3 := hb8.frozen 3))
              all_goals
                go_wp2_with fail
                go_ret2
                exact ⟨by rw [HA.out.1, HA.out.2.1]; rfl, by
                  have hfin := rapply_close (o := ⟨⟨(k : Int) + 1, n⟩, what, p, letter, seen⟩) HD.out HO7'.out (by rfl) (by exact ⟨rfl, rfl⟩) HD7'.out HTN.out HR.out HTS.out hO hL hg
                  obtain ⟨S9, D9, f1, f2, f3⟩ := hfin
                  refine ⟨S9, D9, f1.congr ?_ ?_ ?_ ?_, f2, f3⟩
                  · rw [HA.out.2.2]; exact (HTK.out HZ.out).1.symm
                  · rw [HA.out.2.2]; exact (HTK.out HZ.out).2.symm
                  · rw [HA.out.2.2]; show addRes _ _ = _; unfold addRes; simp only; congr 1; omega
                  · rw [HA.out.2.2, (LDoc.turn_rest st _).2]⟩
            · obtain ⟨a1, a2, a3⟩ := LDoc.apply_bad3 HOK.out HE1.out (by rw [HHAS.out, HNO.out]; simp; omega) (HGAP.out (by rw [HNO.out]; omega) (by rw [HNO.out]; omega)) (by omega) hz
              have HA := Lib.hid (And.intro a1 (And.intro a2 a3))
              have q3 : (st.turnE ⟨⟨(k : Int) + 1, n⟩, what, p, letter, seen⟩ != 0) = true := by simpa using hz
              clear a1 a2 a3 hz
              generalize st.turnE ⟨⟨(k : Int) + 1, n⟩, what, p, letter, seen⟩ = te at *
              go_wp2_with fail
              go_ret2
              exact ⟨by rw [HA.out.1, HA.out.2.1]; rfl, by rw [HA.out.2.2]; exact HD.out.to_self (HBT.out _ HBC.out)⟩
  · obtain ⟨a1, a2, a3⟩ := LDoc.apply_bad1 (d := st) h1
    have HA := Lib.hid (And.intro a1 (And.intro a2 a3))
    have q2 : (opErr o != 0) = true := by simpa using h1
    clear a1 a2 a3
    obtain ⟨⟨who, n⟩, what, p, letter, seen⟩ := o
    unfold LOp.val at *
    unfold LOp.cells at hW0 HX
    simp only at *
    obtain ⟨⟨c0, c1, c2, c3⟩, j0, j1, j2, j3, j4, j5⟩ := HCEL.out _ HBR.out
    generalize opErr _ = ke at *
    go_enter Tryz.func19, Tryz.ntmps19
    go_wp2_with fail
    rw [← hW0]
    clear hW0
    refine (HOP.out _ HB0.out).mono ?_
    rintro e w1 ⟨rfl, hb1⟩
    have HB1 := Lib.hid hb1
    clear hb1
    go_wp2_with fail
    go_ret2
    exact ⟨by rw [HA.out.1, HA.out.2.1]; rfl, by rw [HA.out.2.2]; exact HD.out.to_self (HBT.out _ HB1.out)⟩
end
end Go.Proofs.YtkaccnegdmpofaaGreatDoor

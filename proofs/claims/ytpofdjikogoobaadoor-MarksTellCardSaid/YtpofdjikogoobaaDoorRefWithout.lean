/- The document's Without, walked. Conditions: few marks, few dots. -/
import Derived.Test.YtpofdjikogoobaaDoorRefMarks
namespace Go.Proofs.YtpofdjikogoobaaDoor
open Go.RowKit
set_option linter.unusedVariables false
theorem joinRes_len (l : List LMark) (p : ByteArray) (seen : List LDot) : (joinRes l p seen).length ≤ l.length := List.length_filter_le _ _
theorem joinRes_take {l : List LMark} {p : ByteArray} {seen : List LDot} {k : Nat} (h : k < l.length) : joinRes (l.take (k + 1)) p seen = joinRes (l.take k) p seen ++ (if joined p seen l[k] = true then [] else [l[k]]) := by
  unfold joinRes
  rw [List.take_succ_eq_append_getElem h, List.filter_append]
  congr 1
  cases hj : joined p seen l[k] <;> simp [hj]
def WithoutLoop (w : World) (l : List LMark) (p : ByteArray) (seen : List LDot) (v i : Value) (wr : World) : Prop :=
  ∃ (k cv : Nat) (V : Option Addr), k ≤ l.length ∧ i = .int .i64 k ∧ v = .slice V (joinRes (l.take k) p seen).length cv ∧ Hid (Own wr w.heap.size 118 3 V (joinRes (l.take k) p seen).length cv (mcells (joinRes (l.take k) p seen))) ∧ Hid (Below w.heap.size w wr)
/-- Marks are given back; they are of the call's own. -/
def OwnMarks (w : World) (l : List LMark) (e : Ending) (w' : World) : Prop :=
  ∃ V c, e = .returned (.slice V l.length c) ∧ Own w' w.heap.size 118 3 V l.length c (mcells l) ∧ Below w.heap.size w w'
theorem mcells_append (a b : List LMark) : mcells a ++ mcells b = mcells (a ++ b) := by simp [mcells]
set_option maxRecDepth 100000 in
set_option maxHeartbeats 4000000 in
theorem rwithout_any (w : World) (A : Option Addr) (c : Nat) (l : List LMark) (p : ByteArray) (A2 : Option Addr) (c2 : Nat) (seen : List LDot) (h : Reads w w.heap.size 3 A l.length (mcells l)) (hn : l.length ≤ 1000)
    (h2 : Reads w w.heap.size 2 A2 seen.length (dcells seen)) (hn2 : seen.length ≤ 1000) :
    Calls Tryd.prog 75 #[.slice A l.length c, .string p, .slice A2 seen.length c2] w (OwnMarks w (joinRes l p seen)) := by
  have HR : Hid (∀ W, Below w.heap.size w W → Reads W w.heap.size 3 A l.length (mcells l)) := fun W hb => h.below hb
  have HI := Lib.hid (fun W (hb : Below w.heap.size w W) d => rin_any W A2 c2 seen d ((h2.below hb).more hb.size) hn2)
  clear h h2
  go_enter Tryd.func75, Tryd.ntmps75
  go_wp2_with fail
  go_loopw [7, 8, 9] (fun v i _ wr => WithoutLoop w l p seen v i wr) (fun _ i _ _ => l.length - (intOf i).toNat)
  case atStart => exact ⟨0, 0, none, by omega, rfl, rfl, Own.nil _ _ _ _, Below.refl _ _⟩
  case round =>
    obtain ⟨k, cv, V, hk, rfl, rfl, HO, HB⟩ := hrel
    by_cases hkn : k < l.length
    · obtain ⟨ad, rfl, hb, c0, c1, c2⟩ := (HR.out _ HB.out).mark hkn
      have hlt : (k : Int) < (l.length : Int) := by omega
      have hk0 : (0 : Int) ≤ (k : Int) := by omega
      have hle := joinRes_len (l.take k) p seen
      rw [List.length_take] at hle
      have hle2 : (joinRes (l.take k) p seen).length ≤ k := by omega
      have HTK := Lib.hid (joinRes_take (l := l) (p := p) (seen := seen) hkn)
      have HCE : Hid (∀ W, Below w.heap.size w W → W.cell? (ad.add (k * 3)) = some (.string l[k].place) ∧ W.cell? ⟨(ad.add (k * 3)).block, (ad.add (k * 3)).off + 1, none⟩ = some (.int .i64 l[k].dot.who) ∧ W.cell? ⟨(ad.add (k * 3)).block, (ad.add (k * 3)).off + 2, none⟩ = some (.int .i64 l[k].dot.n)) := fun W hb => by
        obtain ⟨ad2, e, _, e0, e1, e2⟩ := (HR.out _ hb).mark hkn
        injection e with e
        subst e
        exact ⟨e0, e1, e2⟩
      have hszb : w.heap.size ≤ wr.heap.size := HB.out.size
      clear hle
      generalize l[k] = x at c0 c1 c2 HTK HCE
      generalize joinRes (l.take k) p seen = T at HTK hle2 HO ⊢
      obtain ⟨q, ⟨d, n⟩⟩ := x
      simp only at c0 c1 c2 HCE
      have HJ : Hid (joined p seen ⟨q, ⟨d, n⟩⟩ = (decide (q = p) && inD seen ⟨d, n⟩)) := rfl
      have HIN := Lib.hid (HI.out _ HB.out ⟨d, n⟩)
      generalize inD seen ⟨d, n⟩ = bv at HJ HIN
      go_wp2_with fail
      refine HIN.out.mono ?_
      rintro e w1 ⟨rfl, hb1⟩
      have HB1 := Lib.hid (HB.out.trans (hb1.mono HB.out.size))
      have HO1 := Lib.hid (HO.out.below hb1)
      have hz1 : w.heap.size ≤ w1.heap.size := HB1.out.size
      obtain ⟨e0, e1, e2⟩ := HCE.out _ HB1.out
      clear hb1 c0 c1 c2 HCE
      by_cases hj : joined p seen ⟨q, ⟨d, n⟩⟩ = true
      · have HT : Hid (joinRes (l.take (k + 1)) p seen = T) := by show _ = _; rw [HTK.out, if_pos hj, List.append_nil]
        rw [HJ.out, Bool.and_eq_true, decide_eq_true_eq] at hj
        obtain ⟨hp, hbv⟩ := hj
        have g0 : (q.toList == p.toList) = true := by rw [hp]; simp
        have g1 : (q.toList != p.toList) = false := by rw [hp]; simp
        subst hbv
        clear hp HTK HJ
        go_wp2_with fail
        go_roundw
        case rel =>
          refine ⟨k + 1, cv, V, by omega, by go_num, by rw [HT.out], Lib.hid ?_, HB1⟩
          rw [HT.out]
          exact HO1.out
        case measure => simp [intOf]; omega
      · have HT : Hid (joinRes (l.take (k + 1)) p seen = T ++ [⟨q, ⟨d, n⟩⟩]) := by show _ = _; rw [HTK.out, if_neg hj]
        have hF : Fits (T.length + 1) 32 := Fits.of_small (by omega) (by decide)
        have HRX := Lib.hid (Reads.row w1 118 #[.string q, .int .i64 d, .int .i64 n])
        rw [HJ.out] at hj
        clear HTK HJ
        by_cases hp : q = p
        · have hbv : bv = false := by
            cases bv
            · rfl
            · exact absurd (by simp [hp]) hj
          have g0 : (q.toList == p.toList) = true := by rw [hp]; simp
          have g1 : (q.toList != p.toList) = false := by rw [hp]; simp
          subst hbv
          clear hp hj
          go_wp2_with (at_builtin; go_loud (refine wpList_app _ (.tmp 34) (.tmp 39) rfl rfl InsMark.elem rfl rfl (HO1.out.alloc _) HRX.out (oneCells_m [⟨q, ⟨d, n⟩⟩]) hF (by simp; omega) ?_; intro V2 cv2 w2 HO2 HL2 HX2; have HOn := Lib.hid HO2; have HBn : Hid (Below w.heap.size w w2) := (HB1.out.alloc HB1.out.size _).trans (HL2.below (by simp; omega) (fun g hg => (HO1.out.lt g hg).1)); clear HO2 HL2 HX2))
          go_roundw
          case rel =>
            refine ⟨k + 1, cv2, V2, by omega, by go_num, by rw [HT.out, List.length_append]; rfl, Lib.hid ?_, HBn⟩
            rw [HT.out, List.length_append, ← mcells_append]
            exact HOn.out
          case measure => simp [intOf]; omega
        · have g0 : (q.toList == p.toList) = false := by rw [beq_eq_false_iff_ne]; exact fun h => hp (tl_inj h)
          have g1 : (q.toList != p.toList) = true := by rw [bne_iff_ne]; exact fun h => hp (tl_inj h)
          clear hp hj
          go_wp2_with (at_builtin; go_loud (refine wpList_app _ (.tmp 34) (.tmp 39) rfl rfl InsMark.elem rfl rfl (HO1.out.alloc _) HRX.out (oneCells_m [⟨q, ⟨d, n⟩⟩]) hF (by simp; omega) ?_; intro V2 cv2 w2 HO2 HL2 HX2; have HOn := Lib.hid HO2; have HBn : Hid (Below w.heap.size w w2) := (HB1.out.alloc HB1.out.size _).trans (HL2.below (by simp; omega) (fun g hg => (HO1.out.lt g hg).1)); clear HO2 HL2 HX2))
          go_roundw
          case rel =>
            refine ⟨k + 1, cv2, V2, by omega, by go_num, by rw [HT.out, List.length_append]; rfl, Lib.hid ?_, HBn⟩
            rw [HT.out, List.length_append, ← mcells_append]
            exact HOn.out
          case measure => simp [intOf]; omega
    · have hd : decide ((k : Int) < (l.length : Int)) = false := by simp; omega
      have HT : Hid (l.take k = l) := List.take_of_length_le (by omega)
      rw [HT.out] at HO ⊢
      go_wp2_with fail
      go_ret
      exact ⟨V, cv, rfl, HO.out, HB.out⟩
end Go.Proofs.YtpofdjikogoobaaDoor

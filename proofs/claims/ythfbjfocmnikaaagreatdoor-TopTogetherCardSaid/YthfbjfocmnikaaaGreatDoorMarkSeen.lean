/- marks.SeenAt, Seen, walked. Conditions: places that an int may count. -/
import Derived.Test.YthfbjfocmnikaaaGreatDoorMarkLaw
namespace Go.Proofs.YthfbjfocmnikaaaGreatDoor
open Go.RowKit
set_option linter.unusedVariables false

theorem elemD : Elem Tryz.prog 28 27 2 16 := Elem.mk_ (z := .agg #[.int .i64 0, .int .i64 0]) Tryz.underlying28 (by kernel_rfl) rfl (by decide)
theorem oneCells_d (l : List LDot) : OneCells (dcells l) := by
  intro u hu
  simp only [dcells, List.mem_flatMap] at hu
  obtain ⟨e, _, hu⟩ := hu
  simp only [LDot.cells, List.mem_cons, List.not_mem_nil, or_false] at hu
  rcases hu with rfl | rfl <;> rfl
theorem dcells_append (a b : List LDot) : dcells a ++ dcells b = dcells (a ++ b) := by simp [dcells]
theorem seenAt_len (l : List LMark) (p : ByteArray) : (seenAt l p).length ≤ l.length := by
  unfold seenAt; rw [List.length_map]; exact List.length_filter_le _ _
theorem seenAt_take {l : List LMark} {p : ByteArray} {k : Nat} (h : k < l.length) : seenAt (l.take (k + 1)) p = seenAt (l.take k) p ++ (if l[k].place = p then [l[k].dot] else []) := by
  unfold seenAt
  rw [List.take_succ_eq_append_getElem h, List.filter_append, List.map_append]
  congr 1
  by_cases hp : l[k].place = p <;> simp [hp]
def SeenLoop (w : World) (l : List LMark) (p : ByteArray) (v i : Value) (wr : World) : Prop :=
  ∃ (k cv : Nat) (V : Option Addr), k ≤ l.length ∧ i = .int .i64 k ∧ v = .slice V (seenAt (l.take k) p).length cv ∧ Hid (Own wr w.heap.size 27 2 V (seenAt (l.take k) p).length cv (dcells (seenAt (l.take k) p))) ∧ Hid (Below w.heap.size w wr)
/-- Dots are given back; they are of the call's own. -/
def DotsPost (w : World) (l : List LDot) (e : Ending) (w' : World) : Prop :=
  ∃ V c, e = .returned (.slice V l.length c) ∧ Own w' w.heap.size 27 2 V l.length c (dcells l) ∧ Below w.heap.size w w'
set_option maxRecDepth 100000 in
set_option maxHeartbeats 2000000 in
theorem seenAt_any (w : World) (A : Option Addr) (c : Nat) (l : List LMark) (p : ByteArray) (h : Reads w w.heap.size 3 A l.length (mcells l)) (hn : l.length ≤ 1000) :
    Calls Tryz.prog 205 #[.slice A l.length c, .string p] w (DotsPost w (seenAt l p)) := by
  have HR := Lib.hid h
  clear h
  go_enter Tryz.func205, Tryz.ntmps205
  go_wp2_with fail
  go_loopw [4, 9] (fun v i wr => SeenLoop w l p v i wr) (fun _ i _ => l.length - (intOf i).toNat)
  case atStart => exact ⟨0, 0, none, by omega, rfl, rfl, Own.nil _ _ _ _, Below.refl _ _⟩
  case round =>
    obtain ⟨k, cv, V, hk, rfl, rfl, HO, HB⟩ := hrel
    by_cases hkn : k < l.length
    · obtain ⟨ad, rfl, hb, c0, c1, c2⟩ := (HR.out.below HB.out).mark hkn
      have hlt : (k : Int) < (l.length : Int) := by omega
      have hk0 : (0 : Int) ≤ (k : Int) := by omega
      have hle := seenAt_len (l.take k) p
      rw [List.length_take] at hle
      have hle2 : (seenAt (l.take k) p).length ≤ k := by omega
      have HTK := Lib.hid (seenAt_take (l := l) (p := p) hkn)
      clear hle
      generalize l[k] = x at c0 c1 c2 HTK
      generalize seenAt (l.take k) p = T at HTK hle2 HO ⊢
      obtain ⟨q, ⟨d, n⟩⟩ := x
      simp only at c0 c1 c2
      have HBa := Lib.hid (HB.out.alloc HB.out.size (.cells #[.string q, .int .i64 d, .int .i64 n] 136))
      have HOa := Lib.hid (HO.out.alloc (.cells #[.string q, .int .i64 d, .int .i64 n] 136))
      have hszb : w.heap.size ≤ wr.heap.size := HB.out.size
      by_cases hp : q = p
      · have HT : Hid (seenAt (l.take (k + 1)) p = T ++ [⟨d, n⟩]) := by show _ = _; rw [HTK.out, if_pos hp]
        have g0 : (q.toList == p.toList) = true := by rw [hp]; simp
        have hF : Fits (T.length + 1) 16 := Fits.of_small (by omega) (by decide)
        have HRW : Hid (Reads ((wr.alloc (.cells #[.string q, .int .i64 d, .int .i64 n] 136)).alloc (.cells #[.int .i64 d, .int .i64 n] 27)) (wr.heap.size + 1 + 1) 2 (some ⟨wr.heap.size + 1, 0, none⟩) 1 (dcells [⟨d, n⟩])) := by
          have h := Reads.row (wr.alloc (.cells #[.string q, .int .i64 d, .int .i64 n] 136)) 27 #[.int .i64 d, .int .i64 n]
          have e : (wr.alloc (.cells #[.string q, .int .i64 d, .int .i64 n] 136)).heap.size = wr.heap.size + 1 := by simp
          rw [e] at h
          exact h
        clear hp HTK
        go_wp2_with (at_builtin; go_loud (refine wpList_app _ (.tmp 17) (.tmp 20) rfl rfl elemD rfl rfl (HOa.out.alloc _) HRW.out (oneCells_d [⟨d, n⟩]) hF (by simp; omega) ?_; intro V2 cv2 w2 HO2 HL2 HX2; have HOn := Lib.hid HO2; have HBn : Hid (Below w.heap.size w w2) := (HBa.out.alloc HBa.out.size _).trans (HL2.below (by simp; omega) (fun g hg => (HOa.out.lt g hg).1)); clear HO2 HL2 HX2))
        go_roundw
        case rel =>
          refine ⟨k + 1, cv2, V2, by omega, by go_num, by rw [HT.out, List.length_append]; rfl, Lib.hid ?_, HBn⟩
          rw [HT.out, List.length_append, ← dcells_append]
          exact HOn.out
        case measure => simp [intOf]; omega
      · have HT : Hid (seenAt (l.take (k + 1)) p = T) := by show _ = _; rw [HTK.out, if_neg hp, List.append_nil]
        have g0 : (q.toList == p.toList) = false := by rw [beq_eq_false_iff_ne]; exact fun h => hp (tl_inj h)
        clear hp HTK
        go_wp2_with fail
        go_roundw
        case rel =>
          refine ⟨k + 1, cv, V, by omega, by go_num, by rw [HT.out], Lib.hid ?_, HBa⟩
          rw [HT.out]
          exact HOa.out
        case measure => simp [intOf]; omega
    · have hd : decide ((k : Int) < (l.length : Int)) = false := by simp; omega
      have HT : Hid (l.take k = l) := List.take_of_length_le (by omega)
      rw [HT.out] at HO ⊢
      go_wp2_with fail
      go_ret
      exact ⟨V, cv, rfl, HO.out, HB.out⟩
end Go.Proofs.YthfbjfocmnikaaaGreatDoor

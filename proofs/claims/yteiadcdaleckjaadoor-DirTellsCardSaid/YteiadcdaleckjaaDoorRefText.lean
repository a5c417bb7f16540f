/- The document's Text, Nth, Ahead, walked. Conditions: a book that is right, or letters that are bytes. -/
import Derived.Test.YteiadcdaleckjaaDoorBookFind
import Derived.Test.YteiadcdaleckjaaDoorRefPlace
namespace Go.Proofs.YteiadcdaleckjaaDoor
open Go.RowKit
set_option linter.unusedVariables false
set_option maxRecDepth 100000 in
set_option maxHeartbeats 2000000 in
theorem rtext_any (w : World) (A : Option Addr) (c : Nat) (l : List LLeaf) (h : Reads w w.heap.size 3 A l.length (lcells l)) (hf : Fit l) (hn : l.length ≤ 1000000) :
    Calls Tryd.prog 19 #[.slice A l.length c] w (CheckPost w (.string (textOf l))) := by
  have HR := Lib.hid h
  have HS := Lib.hid (fun w x => rseen_any w x)
  have HFt := Lib.hid hf
  clear h hf
  go_enter Tryd.func19, Tryd.ntmps19
  go_wp2_with fail
  go_loopw [3, 4] (fun v i wr => TextLoop w l v i wr) (fun _ i _ => l.length - (intOf i).toNat)
  case atStart => exact ⟨0, 0, none, by omega, rfl, rfl, Own.nil _ _ _ _, Below.refl _ _⟩
  case round =>
    obtain ⟨k, cv, V, hk, rfl, rfl, HO, HB⟩ := hrel
    by_cases hkn : k < l.length
    · obtain ⟨ad, rfl, hb, c0, c1, c2⟩ := (HR.out.below HB.out).leaf hkn
      have hlt : (k : Int) < (l.length : Int) := by omega
      have hk0 : (0 : Int) ≤ (k : Int) := by omega
      have htk := textL_take hkn
      have hfit := HFt.out l[k] (List.getElem_mem hkn)
      have hle := textL_le (l.take k)
      rw [List.length_take] at hle
      have hle2 : (textL (l.take k)).length ≤ k := by omega
      clear hle
      generalize l[k] = x at c0 c1 c2 htk hfit
      generalize textL (l.take k) = T at htk hle2 HO ⊢
      have HTK := Lib.hid htk
      have hadb : (ad.add (k * 3)).block < wr.heap.size := by rw [block_of_add]; have := HB.out.size; omega
      clear htk
      go_wp2_with fail
      refine (HS.out _ x).mono ?_
      rintro e w1 ⟨rfl, hb1⟩
      have HB1 : Hid (Below w.heap.size w w1) := HB.out.trans (hb1.mono HB.out.size)
      have HO1 := Lib.hid (HO.out.below hb1)
      have d1 : w1.cell? ⟨(ad.add (k * 3)).block, (ad.add (k * 3)).off + 1, none⟩ = some (.int .i64 x.letter) := (hb1.cell (by exact hadb)).trans c1
      clear hb1
      cases hs : seenB x with
      | true =>
        obtain ⟨n0, n1⟩ := hfit hs
        have HS1 := Lib.hid hs
        have hF : Fits (T.length + 1) 1 := Fits.of_small (by omega) (by decide)
        have HRB := Lib.hid (reads_byte w1 x.letter n0 n1 (.int .u8 x.letter) rfl)
        have HOb := HO1.out.alloc (.cells #[.int .u8 x.letter] 5)
        have hbase : w.heap.size ≤ (w1.alloc (.cells #[.int .u8 x.letter] 5)).heap.size := by have := HB1.out.size; simp; omega
        have HBb := Lib.hid (HB1.out.alloc HB1.out.size (.cells #[.int .u8 x.letter] 5))
        clear hs hfit
        go_wp2_with (at_builtin; go_loud (refine wpList_app _ (.tmp 18) (.tmp 25) rfl rfl elemB rfl rfl HOb HRB.out (oneCells_bs _) hF hbase ?_; intro V2 cv2 w2 HO2 HL2 HX2; have HOn := Lib.hid HO2; have HBn : Hid (Below w.heap.size w w2) := HBb.out.trans (HL2.below HBb.out.size (fun g hg => (HOb.lt g hg).1)); clear HO2 HL2 HX2 HOb))
        go_roundw
        case rel =>
          have hT : textL (l.take (k + 1)) = T ++ [Go.Proofs.YteiadcdaleckjaaDoor.u8 x.letter] := by rw [HTK.out, HS1.out]; rfl
          refine ⟨k + 1, cv2, V2, by omega, by go_num, by rw [hT, List.length_append]; rfl, Lib.hid ?_, HBn⟩
          rw [hT, List.length_append, ← bs_append]
          exact HOn.out
        case measure => simp [intOf]; omega
      | false =>
        have HS1 := Lib.hid hs
        clear hs hfit
        go_wp2_with fail
        go_roundw
        case rel =>
          have hT : textL (l.take (k + 1)) = T := by rw [HTK.out, HS1.out]; simp
          refine ⟨k + 1, cv, V, by omega, by go_num, by rw [hT], Lib.hid ?_, HB1⟩
          rw [hT]
          exact HO1.out
        case measure => simp [intOf]; omega
    · have hd : decide ((k : Int) < (l.length : Int)) = false := by simp; omega
      have hcv := conv_own HO.out
      have HT : Hid (strOf (textL (l.take k)) = textOf l) := by show _ = _; rw [List.take_of_length_le (by omega)]; rfl
      go_wp2_with fail
      go_ret
      exact ⟨by rw [← HT.out]; rfl, HB.out⟩
/-- The place of the o-th leaf that is seen; -1: none. -/
def RNthLoop (w : World) (l : List LLeaf) (off : Int) (n i : Value) (wr : World) : Prop :=
  ∃ (k : Nat) (o : Int), k ≤ l.length ∧ i = .int .i64 k ∧ n = .int .i64 o ∧ 0 ≤ o ∧ o ≤ off ∧ o ≤ k ∧ Hid (Below w.heap.size w wr) ∧ Hid (nthFrom 0 l off = nthFrom k (l.drop k) (off - o))
/-- How many are ahead, by going along. -/
theorem ahead_step {l : List LLeaf} {p : ByteArray} (hr : Rising l) {k : Nat} (h1 : ∀ j (hj : j < l.length), j < k → Op.bytesLess l[j].place.toList p.toList = true) (hk : k ≤ l.length)
    (h2 : ∀ (hk : k < l.length), Op.bytesLess l[k].place.toList p.toList = false) : ahead l p = k := by
  refine ahead_of hk h1 (fun j hj hkj => ?_)
  have hkl : k < l.length := by omega
  rcases Nat.eq_or_lt_of_le hkj with h | h
  · subst h; exact h2 hkl
  · cases hh : Op.bytesLess l[j].place.toList p.toList
    · rfl
    · have := less_trans _ _ _ (rising_lt hr k j hkl hj h) hh
      rw [h2 hkl] at this; cases this
set_option maxRecDepth 100000 in
set_option maxHeartbeats 2000000 in
theorem rahead_any (w : World) (A : Option Addr) (c : Nat) (l : List LLeaf) (p : ByteArray) (h : Reads w w.heap.size 3 A l.length (lcells l)) (hn : l.length ≤ 1000000) (hr : Rising l) :
    Calls Tryd.prog 29 #[.slice A l.length c, .string p] w fun e w' => e = .returned (.int .i64 (ahead l p : Int)) ∧ w' = w := by
  have HR := Lib.hid h
  have HRi := Lib.hid hr
  clear h hr
  go_enter Tryd.func29, Tryd.ntmps29
  go_wp2_with fail
  go_loop [5] (fun i => ∃ k : Nat, k ≤ l.length ∧ i = .int .i64 k ∧ Hid (∀ j (hj : j < l.length), j < k → Op.bytesLess l[j].place.toList p.toList = true)) (fun i => l.length - (intOf i).toNat)
  case atStart => exact ⟨0, by omega, rfl, fun j hj h => by omega⟩
  case round =>
    obtain ⟨k, hk, rfl, H1⟩ := hrel
    by_cases hkn : k < l.length
    · obtain ⟨ad, rfl, hb, c0, c1, c2⟩ := HR.out.leaf hkn
      have hlt : (k : Int) < (l.length : Int) := by omega
      have hk0 : (0 : Int) ≤ (k : Int) := by omega
      cases hless : Op.bytesLess l[k].place.toList p.toList with
      | true =>
        have HS : Hid (∀ j (hj : j < l.length), j < k + 1 → Op.bytesLess l[j].place.toList p.toList = true) := fun j hj hlt => by
          rcases Nat.eq_or_lt_of_le (Nat.le_of_lt_succ hlt) with h | h
          · subst h; exact hless
          · exact H1.out j hj h
        generalize l[k] = x at *
        go_wp2_with fail
        go_round
        case rel => exact ⟨k + 1, by omega, by go_num, HS⟩
        case measure => simp [intOf]; omega
      | false =>
        have HA : Hid (ahead l p = k) := ahead_step HRi.out (fun j hj h => H1.out j hj h) hk (fun _ => hless)
        generalize l[k] = x at *
        go_wp2_with fail
        go_ret
        exact ⟨by rw [HA.out]; rfl, rfl⟩
    · have hd : decide ((k : Int) < (l.length : Int)) = false := by simp; omega
      have HA : Hid (ahead l p = k) := ahead_step HRi.out (fun j hj h => H1.out j hj h) hk (fun h => absurd h hkn)
      go_wp2_with fail
      go_ret
      exact ⟨by rw [HA.out]; rfl, rfl⟩
end Go.Proofs.YteiadcdaleckjaaDoor

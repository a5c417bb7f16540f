/- leafref1.many, walked whole. Conditions: the texts are places, or empty. -/
import Derived.Test.YtgmdnmdniidngaaDoorRefMany
namespace Go.Proofs.YtgmdnmdniidngaaDoor
open Go.RowKit
set_option linter.unusedVariables false
theorem strOf_tl (l : List UInt8) : (strOf l).toList = l := by simp [strOf, ByteArray.toList_eq]
set_option maxRecDepth 100000 in
set_option maxHeartbeats 8000000 in
theorem rmany_more (w : World) (a b s : ByteArray) (la : Letters a) (lb : Letters b) (sa : a.size ≤ 12) (sb : b.size ≤ 12) (hs : LowL s.toList) (r n : Nat) (hn : s.size + (r + 1) = n) (h11 : n ≤ 11)
    (IH : ∀ (s' : ByteArray) (w' : World), LowL s'.toList → s'.size + r = n → Calls Tryd.prog 44 #[.string s', .int .i64 (n : Int), .string a, .string b] w' (CheckPost w' (.int .i64 (rcount a b n r (numF s'.toList s'.size) : Int)))) :
    Calls Tryd.prog 44 #[.string s, .int .i64 (n : Int), .string a, .string b] w (CheckPost w (.int .i64 (rcount a b n (r + 1) (numF s.toList s.size) : Int))) := by
  have LA := low_of la
  have LB := low_of lb
  have hl := toList_len s
  have HIH := Lib.hid IH
  have HM := Lib.hid (rmay_any' w s a b n (by omega) h11)
  have HB := Lib.hid (rbegins_any w s b (by omega) (by omega))
  have hnone := fun h => rcount_none (a := a) (b := b) (n := n) LA LB hs (r := r + 1) (by rw [hl]; exact hn) h
  have hall := fun h => rcount_all (a := a) (b := b) (n := n) LA LB hs (r := r) (by rw [hl]; exact hn) h
  have e3 : numF s.toList s.toList.length = numF s.toList s.size := by rw [hl]
  rw [e3] at hnone hall
  obtain ⟨v, hv⟩ : ∃ v, v = numF s.toList s.size := ⟨_, rfl⟩
  rw [← hv] at hnone hall ⊢
  have HV := Lib.hid hv
  have hvn : v < 26 ^ s.size := by
    have := numF_lt hs s.toList.length
    rw [e3, ← hv, hl] at this
    exact this
  have HNONE := Lib.hid hnone
  have HALL := Lib.hid hall
  have HLS := Lib.hid hs
  have HN := Lib.hid hn
  have hsn : s.size ≤ 10 := by omega
  have hr10 : r ≤ 10 := by omega
  have eln : ((s.size : Int) == (n : Int)) = false := by rw [beq_eq_false_iff_ne]; omega
  clear IH LA LB la lb hs hnone hall e3 hv hn hl
  obtain ⟨bm, hbm⟩ : ∃ x, mayB s.toList n a.toList b.toList = x := ⟨_, rfl⟩
  rw [hbm] at HM HNONE
  cases bm with
  | false =>
    have HZ := Lib.hid (HNONE.out rfl)
    clear hbm HNONE
    go_enter Tryd.func44, Tryd.ntmps44
    go_wp2_with fail
    refine HM.out.mono ?_
    rintro e w1 ⟨rfl, hw⟩
    obtain rfl := hw.symm
    go_wp2_with fail
    go_ret
    exact ⟨by rw [HZ.out]; rfl, Below.refl _ _⟩
  | true =>
    clear hbm HNONE
    go_enter Tryd.func44, Tryd.ntmps44
    go_wp2_with fail
    refine HM.out.mono ?_
    rintro e w1 ⟨rfl, hw⟩
    obtain rfl := hw.symm
    clear hw HM
    go_upto_block 0 with (fail)
    go_cut [10, 11] (fun v10 v11 wx => PadCut w s n v10 v11 wx)
    case first => as_aux_lemma =>
      go_wp2_with fail
      go_loopw [10, 11] (fun v9 v10 wr => PadLoop w s (r + 1) v9 v10 wr) (fun v9 _ _ => match v9 with | .string x => 11 - x.size | _ => 0)
      case atStart => exact ⟨0, s, s, by omega, rfl, rfl, by show _ = _; simp, by show _ = _; simp, rfl, rfl⟩
      case round =>
        obtain ⟨j, lo, hi, hj, rfl, rfl, HLO, HHI, hsz, HW⟩ := hrel
        have HSZ := Lib.hid hsz
        have h2 : hi.size = s.size + j := by rw [size_of HHI.out]; simp [toList_len]
        have HS2 := Lib.hid h2
        clear h2 hsz
        by_cases hjr : j < r + 1
        · have k1 : (lo.size : Int) < (n : Int) := by have := HSZ.out; have := HN.out; omega
          have hc1 : ∀ W, (Op.stringOp .add lo ⟨#[97]⟩).run Tryd.prog W = .ok (.string (lo ++ ⟨#[97]⟩)) W := fun W => run_string_add_sum _ _ _ (by have := HSZ.out; have := HN.out; show lo.size + 1 ≤ _; omega)
          have hc2 : ∀ W, (Op.stringOp .add hi ⟨#[122]⟩).run Tryd.prog W = .ok (.string (hi ++ ⟨#[122]⟩)) W := fun W => run_string_add_sum _ _ _ (by have := HS2.out; have := HN.out; show hi.size + 1 ≤ _; omega)
          go_wp2_with fail
          go_roundw
          case rel => exact ⟨j + 1, lo ++ (⟨#[97]⟩ : ByteArray), hi ++ (⟨#[122]⟩ : ByteArray), by omega, rfl, rfl, Lib.hid (pad_next HLO.out), Lib.hid (pad_next HHI.out), by rw [size_of (pad_next HLO.out)]; simp [toList_len], HW⟩
          case measure =>
            have h3 : (lo ++ ⟨#[97]⟩ : ByteArray).size = lo.size + 1 := by rw [size_of (pad_next HLO.out), HSZ.out]; simp [toList_len]; omega
            show 11 - (lo ++ ⟨#[97]⟩ : ByteArray).size < 11 - lo.size
            have := HSZ.out; have := HN.out; omega
        · have k1 : ¬ (lo.size : Int) < (n : Int) := by have := HSZ.out; have := HN.out; omega
          go_wp2_with fail
          go_meet
          case rel =>
            have hjr' : j = r + 1 := by omega
            have hpad : n - s.size = r + 1 := by have := HN.out; omega
            exact ⟨lo, hi, rfl, rfl, by show _ = _; unfold padL; rw [toList_len, hpad, HLO.out, hjr'], by show _ = _; unfold padL; rw [toList_len, hpad, HHI.out, hjr'], HW⟩
    case rest =>
      obtain ⟨lo, hi, rfl, rfl, HLO, HHI, HW⟩ := hcut
      have hw := HW.out
      subst hw
      clear HW
      go_wp2_with fail
      refine HB.out.mono ?_
      rintro e w2' ⟨rfl, hw⟩
      obtain rfl := hw
      clear HB
      go_upto_region 15 with (fail)
      go_cut [70] (fun v70 wx => v70 = .bool (allB s.toList n a.toList b.toList) ∧ Hid (wx = w2'))
      case first => as_aux_lemma =>
        have hF : allB s.toList n a.toList b.toList = (Op.bytesLess a.toList lo.toList && (b.toList.isEmpty || (Op.bytesLess hi.toList b.toList && !begB s.toList b.toList))) := by
          unfold allB
          rw [emp_iff, HLO.out, HHI.out]
        have HF := Lib.hid hF
        clear hF
        generalize begB s.toList b.toList = bb at *
        obtain ⟨x1, e1⟩ : ∃ x, Op.bytesLess a.toList lo.toList = x := ⟨_, rfl⟩
        obtain ⟨x2, e2⟩ : ∃ x, b.toList.isEmpty = x := ⟨_, rfl⟩
        obtain ⟨x3, e3⟩ : ∃ x, Op.bytesLess hi.toList b.toList = x := ⟨_, rfl⟩
        rw [e1, e2, e3] at HF
        rcases three a.toList lo.toList with ⟨f1, f2, f3⟩ | ⟨f1, f2, f3⟩ | ⟨f1, f2, f3⟩ <;> rw [e1] at f1 <;> subst f1 <;> cases x2 <;> cases x3 <;> cases bb
        all_goals
          go_wp2_with fail
          go_meet
          case rel => exact ⟨by rw [HF.out]; rfl, rfl⟩
      case rest =>
        obtain ⟨rfl, HW⟩ := hcut
        have hw := HW.out
        subst hw
        clear HW HLO HHI
        obtain ⟨al, hal⟩ : ∃ x, allB s.toList n a.toList b.toList = x := ⟨_, rfl⟩
        rw [hal] at HALL ⊢
        clear hal
        cases al with
        | true =>
          have HZ := Lib.hid (HALL.out rfl)
          clear HALL HIH
          go_wp2_with fail
          go_loopw [13, 14] (fun v13 v14 wr => MulLoop wc s.size r v13 v14 wr) (fun _ v14 _ => n - (intOf v14).toNat)
          case atStart => exact ⟨0, by omega, rfl, by congr 1, rfl⟩
          case round =>
            obtain ⟨j, hj, rfl, rfl, HW⟩ := hrel
            have hw := HW.out
            have hP := pow_le j (by omega)
            have hPb : 25 * 26 ^ j ≤ 91758612174694400 := by omega
            clear hP
            by_cases hjr : j < r
            · have k1 : ((s.size + 1 + j : Nat) : Int) < (n : Int) := by have := HN.out; omega
              have hP2 : (25 * 26 ^ (j + 1) : Nat) = 25 * 26 ^ j * 26 := by rw [Nat.pow_succ, Nat.mul_assoc]
              have HP2 := Lib.hid hP2
              clear hP2
              generalize 25 * 26 ^ j = P at *
              have q1 : IntKind.i64.wrap ((P : Int) * 26) = ((P * 26 : Nat) : Int) := by rw [IntWalk.i64_in _ (by omega)]; omega
              have q2 : IntKind.i64.wrap (((s.size + 1 + j : Nat) : Int) + 1) = ((s.size + 1 + (j + 1) : Nat) : Int) := by rw [IntWalk.i64_in _ (by omega)]; omega
              go_wp2_with fail
              go_roundw
              case rel => exact ⟨j + 1, by omega, by rw [HP2.out]; go_num, by go_num, rfl⟩
              case measure => simp [intOf]; omega
            · have k1 : ¬ ((s.size + 1 + j : Nat) : Int) < (n : Int) := by have := HN.out; omega
              have hjr' : j = r := by omega
              subst hjr'
              go_wp2_with fail
              go_ret
              exact ⟨by rw [HZ.out]; rfl, Below.refl _ _⟩
        | false =>
          clear HALL
          have hpw := pow_le (r + 1 + s.size) (by have := HN.out; omega)
          have hpow : 26 ^ (r + 1 + s.size) = 26 ^ s.size * 26 ^ (r + 1) := by rw [Nat.add_comm, Nat.pow_add]
          have hvb : (v + 1) * 26 ^ (r + 1) ≤ 3670344486987776 := by
            have := Nat.mul_le_mul_right (26 ^ (r + 1)) (show v + 1 ≤ 26 ^ s.size from hvn)
            rw [← hpow] at this
            omega
          have HVB : Hid (∀ j, j ≤ 26 → cntN (numb a n) (hiOf b.toList n) ((26 * v + j) * 26 ^ r) ≤ 3670344486987776) := fun j hj => by
            have h1 := cnt_mono (low := numb a n) (hi := hiOf b.toList n) (show (26 * v + j) * 26 ^ r ≤ (26 * v + 26) * 26 ^ r from Nat.mul_le_mul_right _ (by omega))
            have h2 := cnt_le (numb a n) (hiOf b.toList n) ((26 * v + 26) * 26 ^ r)
            have h3 := (span_eq r v).2
            omega
          have HEND : Hid (rcount a b n (r + 1) v = cntN (numb a n) (hiOf b.toList n) ((26 * v + 26) * 26 ^ r) - cntN (numb a n) (hiOf b.toList n) ((26 * v + 0) * 26 ^ r)) := by
            show _ = _
            unfold rcount
            rw [(span_eq r v).1, (span_eq r v).2]
          clear hpw hpow hvb hvn
          go_wp2_with fail
          go_loopw [15, 16] (fun v15 v16 wr => SumLoop wc (numb a n) (hiOf b.toList n) r v v15 v16 wr) (fun _ v16 _ => 123 - (intOf v16).toNat)
          case atStart => exact ⟨0, 0, by omega, rfl, rfl, by show _ = _; simp, Below.refl _ _⟩
          case round =>
            obtain ⟨j, q, hj, rfl, rfl, HQ, HBr⟩ := hrel
            have hq : q ≤ 3670344486987776 := by have := HQ.out; have := HVB.out j hj; omega
            by_cases hj26 : j < 26
            · have k1 : ((97 + j : Nat) : Int) ≤ 122 := by omega
              obtain ⟨C, w3, hcv, hR3, hB3⟩ := conv_row wr s (by omega)
              have HR3 := Lib.hid hR3
              have HB3 := Lib.hid hB3
              obtain ⟨V3, hV3⟩ : ∃ V : Option Addr, some ⟨wr.heap.size, 0, none⟩ = V := ⟨_, rfl⟩
              rw [hV3] at hcv
              have HV3 := Lib.hid hV3
              clear hV3
              have qu : IntKind.u8.wrap ((97 + j : Nat) : Int) = ((97 + j : Nat) : Int) := IntWalk.u8_in _ (by omega)
              have qu2 : IntKind.u8.wrap (97 + (j : Int)) = ((97 + j : Nat) : Int) := by rw [IntWalk.u8_in _ (by omega)]; omega
              have q2 : IntKind.i64.wrap (((97 + j : Nat) : Int) + 1) = ((97 + (j + 1) : Nat) : Int) := by rw [IntWalk.i64_in _ (by omega)]; omega
              clear hR3 hB3
              go_wp2_with (at_builtin; go_loud (refine wpList_bytes (.tmp 88) (.tmp 91) rfl rfl (show Value.slice V3 s.size C = Value.slice (some ⟨wr.heap.size, 0, none⟩) s.size C by rw [HV3.out]) rfl (HR3.out.below ((Below.refl _ _).alloc (Nat.le_refl _) _)) (by have := HB3.out.size; simp; omega) (reads_byte w3 ((97 + j : Nat) : Int) (by omega) (by omega) _ rfl) (by decide) (by omega) ?_; intro g' c' w4 HR4 HO4 HG4; have htx := HR4.text; have HR4' := Lib.hid HR4; have HO4' := Lib.hid HO4; clear HR4 HO4 HG4))
              have hlow : LowL (strOf (s.toList ++ [u8 ((97 + j : Nat) : Int)])).toList := by
                rw [strOf_tl]
                intro x hx
                rcases List.mem_append.1 hx with hx | hx
                · exact HLS.out x hx
                · rw [List.mem_singleton.1 hx]
                  have := u8_val (n := ((97 + j : Nat) : Int)) (by omega) (by omega)
                  omega
              have hsz : (strOf (s.toList ++ [u8 ((97 + j : Nat) : Int)])).size = s.size + 1 := by rw [strOf_size]; simp [toList_len]
              have hnum : numF (strOf (s.toList ++ [u8 ((97 + j : Nat) : Int)])).toList (strOf (s.toList ++ [u8 ((97 + j : Nat) : Int)])).size = 26 * v + j := by
                rw [strOf_tl, strOf_size, snoc_num, HV.out, toList_len]
                have := u8_val (n := ((97 + j : Nat) : Int)) (by omega) (by omega)
                omega
              have HCALL := HIH.out (strOf (s.toList ++ [u8 ((97 + j : Nat) : Int)])) w4 hlow (by rw [hsz]; have := HN.out; omega)
              rw [hnum] at HCALL
              clear hlow hsz hnum
              refine (show Calls Tryd.prog 44 _ w4 _ from HCALL).mono ?_
              rintro e w5 ⟨rfl, hb5⟩
              have hsum := rcount_sum (a := a) (b := b) (n := n) r v j
              have hnx := HVB.out (j + 1) (by omega)
              have hqq : q + rcount a b n r (26 * v + j) ≤ 3670344486987776 := by have := HQ.out; omega
              have HQN : Hid (cntN (numb a n) (hiOf b.toList n) ((26 * v + 0) * 26 ^ r) + (q + rcount a b n r (26 * v + j)) = cntN (numb a n) (hiOf b.toList n) ((26 * v + (j + 1)) * 26 ^ r)) := by show _ = _; have := HQ.out; omega
              clear hsum hnx HCALL
              generalize rcount a b n r (26 * v + j) = R at *
              have HBa := (HBr.out.trans (HB3.out.mono HBr.out.size)).alloc (Nat.le_trans HBr.out.size HB3.out.size) (.cells #[.int .u8 ((97 + j : Nat) : Int)] 5)
              have HB4 : Hid (Below wc.heap.size wc w5) := (HBa.trans (HO4'.out.below HBa.size (fun g hg => by rw [List.mem_singleton.1 hg]; exact HBr.out.size))).trans (hb5.mono (Nat.le_trans HBa.size HO4'.out.size))
              have q3 : IntKind.i64.wrap ((q : Int) + (R : Int)) = ((q + R : Nat) : Int) := by rw [IntWalk.i64_in _ (by omega)]; omega
              clear HBa hb5 HO4' HR4'
              go_wp2_with fail
              go_roundw
              case rel => exact ⟨j + 1, q + R, by omega, by go_num, by go_num, HQN, HB4⟩
              case measure => simp [intOf]; omega
            · have k1 : ¬ ((97 + j : Nat) : Int) ≤ 122 := by omega
              have hj' : j = 26 := by omega
              subst hj'
              go_wp2_with fail
              go_ret
              have hq2 : rcount a b n (r + 1) v = q := by rw [HEND.out]; have := HQ.out; omega
              exact ⟨by rw [hq2]; rfl, HBr.out⟩
end Go.Proofs.YtgmdnmdniidngaaDoor

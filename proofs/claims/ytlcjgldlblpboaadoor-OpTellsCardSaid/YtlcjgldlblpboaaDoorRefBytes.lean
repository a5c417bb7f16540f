/- leafref1.Bytes, walked: the bytes of an op without fault. Conditions: it is without fault. -/
import Derived.Test.YtlcjgldlblpboaaDoorRefTwoB
namespace Go.Proofs.YtlcjgldlblpboaaDoor
open Go.RowKit
set_option linter.unusedVariables false
theorem EncSt.six {w wr : World} {o : LOp} {A V : Option Addr} {c n cv : Nat} {l : List UInt8} (h : EncSt w o A c V n cv l wr) :
    wr.cell? ⟨w.heap.size, 0, none⟩ = some (.int .i64 o.dot.who) ∧ wr.cell? ⟨w.heap.size, 1, none⟩ = some (.int .i64 o.dot.n) ∧ wr.cell? ⟨w.heap.size, 2, none⟩ = some (.int .i64 o.what) ∧ wr.cell? ⟨w.heap.size, 3, none⟩ = some (.string o.place) ∧
      wr.cell? ⟨w.heap.size, 4, none⟩ = some (.int .i64 o.letter) ∧ wr.cell? ⟨w.heap.size, 5, none⟩ = some (.slice A o.seen.length c) :=
  ⟨by rw [h.cell]; rfl, by rw [h.cell]; rfl, by rw [h.cell]; rfl, by rw [h.cell]; rfl, by rw [h.cell]; rfl, by rw [h.cell]; rfl⟩
theorem EncSt.two {w wr w' : World} {o : LOp} {A V : Option Addr} {c n cv k : Nat} {l : List UInt8} (h : EncSt w o A c V n cv l wr) {e : Ending} (hp : RTwoPost wr (w.heap.size + 1) V n l k e w') :
    ∃ V' cv', e = .returned (.slice V' (n + 1 + 1) cv') ∧ EncSt w o A c V' (n + 1 + 1) cv' (l ++ twoB k) w' := by
  obtain ⟨V', cv', rfl, h1, h2⟩ := hp
  refine ⟨V', cv', rfl, h1, h2.blk h.box (fun hm => by have := (h.own.lt _ hm).1; omega), h.bel.trans (h2.below h.bel.size (fun i hi => by have := (h.own.lt _ hi).1; omega))⟩
set_option maxRecDepth 100000 in
set_option maxHeartbeats 4000000 in
theorem rbytes_any (w : World) (A : Option Addr) (c : Nat) (o : LOp) (h : Reads w w.heap.size 2 A o.seen.length (dcells o.seen)) (he : opErr o = 0) :
    Calls Tryd.prog 7 #[o.val A c] w (CheckPost w (.string (strOf (opBytes o)))) := by
  have ok := opOk_of he
  have hbl := opBytes_len he
  have OK := Lib.hid ok
  have HS := Lib.hid h
  have b1 := ok.who.1
  have b2 := ok.who.2
  have b3 := ok.n.1
  have b4 := ok.n.2
  have b5 := ok.what.1
  have b6 := ok.what.2
  have b7 := placeErr_len ok.place
  have EW := Lib.hid (u8_val (show 0 ≤ o.what by omega) (show o.what ≤ 255 by omega))
  have ED := Lib.hid (u8_val (show 0 ≤ o.dot.who by omega) (show o.dot.who ≤ 255 by omega))
  have EP := Lib.hid (u8_val (show 0 ≤ (o.place.size : Int) by omega) (show (o.place.size : Int) ≤ 255 by omega))
  have RW := Lib.hid (fun W : World => reads_new W [u8 o.what] (by simp) #[.int .u8 o.what] (by simp [bs, EW.out]))
  have RD := Lib.hid (fun W : World => reads_new W [u8 o.dot.who] (by simp) #[.int .u8 o.dot.who] (by simp [bs, ED.out]))
  have RP := Lib.hid (fun W : World => reads_new W [u8 o.place.size] (by simp) #[.int .u8 (o.place.size : Int)] (by simp [bs, EP.out]))
  have HT := Lib.hid (fun (W : World) (V : Option Addr) (n cv : Nat) (l : List UInt8) (k : Nat) (hB : w.heap.size + 1 ≤ W.heap.size) (hO : Own W (w.heap.size + 1) 5 1 V n cv (bs l)) (hk : k ≤ 65535) (hn : n ≤ 100000) => r2_any W (w.heap.size + 1) hB V n cv l hO k hk hn)
  obtain ⟨dn, hdn⟩ : ∃ dn : Nat, o.dot.n = (dn : Int) := ⟨o.dot.n.toNat, by omega⟩
  have HDN := Lib.hid hdn
  have hdn2 : dn ≤ 9999 := by omega
  have ST0 : EncSt w o A c none 0 0 [] (w.alloc (.cells (o.cells A c) 26)) :=
    ⟨Own.nil _ _ _ _, Blk.new w 26 (o.cells A c), (Below.refl _ _).alloc (Nat.le_refl _) _⟩
  obtain ⟨W0, hW0⟩ : ∃ W0, W0 = w.alloc (.cells (o.cells A c) 26) := ⟨_, rfl⟩
  rw [← hW0] at ST0
  obtain ⟨i0, i1, i2, i3, i4, i5⟩ := ST0.six
  have HST0 := Lib.hid ST0
  have hF1 : Fits (0 + 1) 1 := Fits.of_small (by decide) (by decide)
  have hF2 : Fits (0 + 1 + 1) 1 := Fits.of_small (by decide) (by decide)
  clear ST0 h ok he hdn
  unfold LOp.val LOp.cells at *
  go_enter Tryd.func7, Tryd.ntmps7
  go_upto_region 1 with (fail)
  rw [← hW0]
  clear hW0
  go_upto_region 3 with (at_builtin; go_loud (refine wpList_app _ (.tmp 7) (.tmp 11) rfl rfl elemB rfl rfl (HST0.out.alloc _).own (RW.out _) (oneCells_bs _) hF1 (HST0.out.alloc _).base ?_; intro V1 cv1 w1 HO HL HX; have HST1 := Lib.hid ((HST0.out.alloc _).app HO HL); clear HO HL HX))
  clear i0 i1 i2 i3 i4 i5
  obtain ⟨i0, i1, i2, i3, i4, i5⟩ := HST1.out.six
  go_upto_region 4 with (at_builtin; refine wpList_app _ (.tmp 13) (.tmp 18) rfl rfl elemB rfl rfl (HST1.out.alloc _).own (RD.out _) (oneCells_bs _) hF2 (HST1.out.alloc _).base ?_; intro V2 cv2 w2 HO HL HX; have HST2 := Lib.hid ((HST1.out.alloc _).app HO HL); clear HO HL HX)
  clear i0 i1 i2 i3 i4 i5
  obtain ⟨i0, i1, i2, i3, i4, i5⟩ := HST2.out.six
  rw [HDN.out] at i1
  go_wp2_with fail
  refine (HT.out _ _ _ _ _ _ HST2.out.base HST2.out.own (by omega) (by omega)).mono ?_
  intro e w3 hp
  obtain ⟨V3, cv3, rfl, ST3⟩ := HST2.out.two hp
  clear hp i0 i1 i2 i3 i4 i5
  have HST3 := Lib.hid ST3
  clear ST3
  obtain ⟨i0, i1, i2, i3, i4, i5⟩ := HST3.out.six
  have hF4 : Fits (0 + 1 + 1 + 1 + 1 + 1) 1 := Fits.of_small (by decide) (by decide)
  go_upto_region 6 with (at_builtin; refine wpList_app _ (.tmp 25) (.tmp 30) rfl rfl elemB rfl rfl (HST3.out.alloc _).own (RP.out _) (oneCells_bs _) hF4 (HST3.out.alloc _).base ?_; intro V4 cv4 w4 HO HL HX; have HST4 := Lib.hid ((HST3.out.alloc _).app HO HL); clear HO HL HX)
  clear i0 i1 i2 i3 i4 i5
  obtain ⟨i0, i1, i2, i3, i4, i5⟩ := HST4.out.six
  obtain ⟨C, w5, hcv, hR5, hB5⟩ := conv_row w4 o.place (by omega)
  have HST5 := Lib.hid (HST4.out.below hB5)
  have HR5 := Lib.hid hR5.reads
  have hF5 : Fits (0 + 1 + 1 + 1 + 1 + 1 + o.place.size) 1 := Fits.of_small (by omega) (by decide)
  clear hR5 hB5
  go_upto_region 7 with (at_builtin; go_loud (refine wpList_app _ (.tmp 32) (.tmp 35) rfl rfl elemB rfl rfl HST5.out.own HR5.out (oneCells_bs _) hF5 HST5.out.base ?_; intro V6 cv6 w6 HO HL HX; have HST6 := Lib.hid (HST5.out.app HO HL); clear HO HL HX))
  clear i0 i1 i2 i3 i4 i5
  have HPT : o.place.toList = o.place.data.toList := ByteArray.toList_eq _
  have HHD : Hid (([] ++ [u8 o.what] ++ [u8 o.dot.who] ++ twoB dn ++ [u8 (o.place.size : Int)]) ++ o.place.toList = opHead o) := by show _ = _; rw [HPT]; simp [opHead, twoB, HDN.out]
  have HST : Hid (EncSt w o A c V6 (0 + 1 + 1 + 1 + 1 + 1 + o.place.size) cv6 (opHead o) w6) := by rw [← HHD.out]; exact HST6.out
  generalize hn0 : 0 + 1 + 1 + 1 + 1 + 1 + o.place.size = n0 at *
  have hn1 : n0 ≤ 17 := by omega
  clear HST0 HST1 HST2 HST3 HST4 HST5 HST6 HR5 hF1 hF2 hF4 hF5 hcv
  have l1 := OK.out.letter
  have s1 := OK.out.few
  obtain ⟨i0, i1, i2, i3, i4, i5⟩ := HST.out.six
  obtain ⟨t1, ht1⟩ : ∃ t1 : List UInt8, t1 = if o.what = 1 then [u8 o.letter] else [] := ⟨_, rfl⟩
  obtain ⟨n1, hn12⟩ : ∃ n1 : Nat, n1 = n0 + t1.length := ⟨_, rfl⟩
  have hn13 : n1 ≤ 18 := by rw [hn12, ht1]; split <;> simp <;> omega
  have HT0 := Lib.hid ht1
  have HN1 := Lib.hid hn12
  clear ht1 hn12
  go_upto_if 39 with (fail)
  go_cut [3] (fun v wr => ∃ V cv, v = .slice V n1 cv ∧ EncSt w o A c V n1 cv (opHead o ++ t1) wr)
  case first =>
    by_cases h1 : o.what = 1
    · obtain ⟨l2, l3⟩ := l1 h1
      have g1 : (o.what == 1) = true := by simp [h1]
      have EL := u8_val (show 0 ≤ o.letter by omega) (show o.letter ≤ 255 by omega)
      have RL := Lib.hid (fun W : World => reads_new W [u8 o.letter] (by simp) #[.int .u8 o.letter] (by simp [bs, EL]))
      have hF4 : Fits (n0 + 1) 1 := Fits.of_small (by omega) (by decide)
      have HT1 : Hid (t1 = [u8 o.letter]) := HT0.out.trans (if_pos h1)
      have HN2 : Hid (n1 = n0 + 1) := by show _ = _; rw [HN1.out, HT1.out]; rfl
      clear h1 EL
      go_wp2_with (at_builtin; refine wpList_app _ (.tmp 40) (.tmp 44) rfl rfl elemB rfl rfl (HST.out.alloc _).own (RL.out _) (oneCells_bs _) hF4 (HST.out.alloc _).base ?_; intro V4 cv4 w7 HO HL HX; have HST7 := Lib.hid ((HST.out.alloc _).app HO HL); clear HO HL HX)
      go_meet
      case rel =>
        rw [HT1.out, HN2.out]
        exact ⟨_, _, rfl, HST7.out⟩
    · have g1 : (o.what == 1) = false := by simp [h1]
      have HT1 : Hid (t1 = []) := HT0.out.trans (if_neg h1)
      have HN2 : Hid (n1 = n0) := by show _ = _; rw [HN1.out, HT1.out]; rfl
      clear h1
      go_wp2_with fail
      go_meet
      case rel =>
        rw [HT1.out, HN2.out, List.append_nil]
        exact ⟨_, _, rfl, HST.out⟩
  case rest =>
    obtain ⟨V7, cv7, rfl, ST⟩ := hcut
    clear HST i0 i1 i2 i3 i4 i5
    have HST := Lib.hid ST
    clear ST
    obtain ⟨i0, i1, i2, i3, i4, i5⟩ := HST.out.six
    go_upto_if 48 with (fail)
    go_cut [3] (fun v wr => ∃ V n cv, v = .slice V n cv ∧ EncSt w o A c V n cv (opHead o ++ opTail o) wr)
    case first =>
      by_cases h4 : o.what = 4
      · have h1 : ¬ o.what = 1 := by omega
        have g4 : (o.what == 4) = true := by simp [h4]
        have EL := u8_val (show (0 : Int) ≤ (o.seen.length : Int) by omega) (show (o.seen.length : Int) ≤ 255 by omega)
        have RL := Lib.hid (fun W : World => reads_new W [Go.Proofs.YtlcjgldlblpboaaDoor.u8 (o.seen.length : Int)] (by simp) #[.int .u8 (o.seen.length : Int)] (by simp [bs, EL]))
        have hF4 : Fits (n1 + 1) 1 := Fits.of_small (by omega) (by decide)
        have HT1 : Hid (opTail o = Go.Proofs.YtlcjgldlblpboaaDoor.u8 (o.seen.length : Int) :: o.seen.flatMap dotBytes) := by show _ = _; unfold opTail; rw [if_neg h1, if_pos h4]
        have HT2 : Hid (t1 = []) := HT0.out.trans (if_neg h1)
        rw [HT2.out, List.append_nil] at HST
        have HRI := Lib.hid OK.out.rise
        clear h1 h4 EL
        go_upto_region 11 with (at_builtin; refine wpList_app _ (.tmp 49) (.tmp 54) rfl rfl elemB rfl rfl (HST.out.alloc _).own (RL.out _) (oneCells_bs _) hF4 (HST.out.alloc _).base ?_; intro V4 cv4 w7 HO HL HX; have HST7 := Lib.hid ((HST.out.alloc _).app HO HL); clear HO HL HX)
        clear i0 i1 i2 i3 i4 i5
        go_wp2_with fail
        go_loopw [3, 4] (fun v i wr => ∃ (k : Nat) (V : Option Addr) (n cv : Nat), k ≤ o.seen.length ∧ i = .int .i64 k ∧ v = .slice V n cv ∧ EncSt w o A c V n cv (opHead o ++ (Go.Proofs.YtlcjgldlblpboaaDoor.u8 (o.seen.length : Int) :: (o.seen.take k).flatMap dotBytes)) wr) (fun v i _ => o.seen.length - (intOf i).toNat)
        case atStart => exact ⟨0, _, _, _, by omega, rfl, rfl, by simpa using HST7.out⟩
        case round =>
          obtain ⟨k, V, n, cv, hk, rfl, rfl, ST⟩ := hrel
          obtain ⟨i0, i1, i2, i3, i4, i5⟩ := ST.six
          have hn8 : n = n1 + 1 + 3 * k := by
            have h1 := ST.len
            have h2 := HST.out.len
            have h4 := flat_len (o.seen.take k)
            rw [List.length_take, show min k o.seen.length = k by omega] at h4
            rw [h1, List.length_append, List.length_cons, h4]
            omega
          have hn9 : n ≤ 200 := by omega
          have HN8 := Lib.hid hn8
          clear hn8
          by_cases hkn : k < o.seen.length
          · obtain ⟨ad, rfl, hb, c0, c1⟩ := (HS.out.below ST.bel).dot hkn
            have hlt : (k : Int) < (o.seen.length : Int) := by omega
            have HST8 := Lib.hid ST
            clear ST
            obtain ⟨x1, x2, x3, x4⟩ := dotErr_ok (rise_zero HRI.out hkn)
            have hF5 : Fits (n + 1) 1 := Fits.of_small (by omega) (by decide)
            have EX := u8_val (show 0 ≤ o.seen[k].who by omega) (show o.seen[k].who ≤ 255 by omega)
            have RX := Lib.hid (fun W : World => reads_new W [Go.Proofs.YtlcjgldlblpboaaDoor.u8 o.seen[k].who] (by simp) #[.int .u8 o.seen[k].who] (by simp [bs, EX]))
            obtain ⟨xn, hxn⟩ : ∃ xn : Nat, o.seen[k].n = (xn : Int) := ⟨o.seen[k].n.toNat, by omega⟩
            have hxn2 : xn ≤ 9999 := by omega
            have HXN := Lib.hid hxn
            have hcat : Hid (opHead o ++ (Go.Proofs.YtlcjgldlblpboaaDoor.u8 (o.seen.length : Int) :: (o.seen.take (k + 1)).flatMap dotBytes) = (opHead o ++ (Go.Proofs.YtlcjgldlblpboaaDoor.u8 (o.seen.length : Int) :: (o.seen.take k).flatMap dotBytes)) ++ [Go.Proofs.YtlcjgldlblpboaaDoor.u8 o.seen[k].who] ++ twoB xn) := by
              show _ = _
              rw [List.take_succ_eq_append_getElem hkn, List.flatMap_append]
              simp [dotBytes, twoB, hxn]
            have HAB : Hid (ad.block < w.heap.size) := by show _ < _; simpa [block_of_add] using hb
            clear EX hb hxn
            go_upto_region 15 with (at_builtin; go_loud (refine wpList_app _ (.tmp 63) (.tmp 71) rfl rfl elemB rfl rfl (HST8.out.alloc _).own (RX.out _) (oneCells_bs _) hF5 (HST8.out.alloc _).base ?_; intro V5 cv5 w8 HO HL HX; have HST9 := Lib.hid ((HST8.out.alloc _).app HO HL); clear HO HL HX))
            clear i0 i1 i2 i3 i4 i5 c0 c1
            obtain ⟨i0, i1, i2, i3, i4, i5⟩ := HST9.out.six
            obtain ⟨ad', e', _, c0, c1⟩ := (HS.out.below HST9.out.bel).dot hkn
            injection e' with e'
            subst e'
            rw [HXN.out] at c1
            go_wp2_with fail
            refine (HT.out _ _ _ _ _ xn HST9.out.base HST9.out.own (by omega) (by omega)).mono ?_
            intro e w9 hp
            obtain ⟨V6, cv6, rfl, ST10⟩ := HST9.out.two hp
            have HST10 := Lib.hid ST10
            clear hp i0 i1 i2 i3 i4 i5 ST10 c0 c1
            go_wp2_with fail
            go_roundw
            case rel => exact ⟨k + 1, _, _, _, by omega, by go_num, rfl, by rw [hcat.out]; exact HST10.out⟩
            case measure => simp [intOf]; omega
          · have hkn' : o.seen.length = k := by omega
            have htk : Hid (opHead o ++ opTail o = opHead o ++ (Go.Proofs.YtlcjgldlblpboaaDoor.u8 (o.seen.length : Int) :: (o.seen.take k).flatMap dotBytes)) := by show _ = _; rw [HT1.out, List.take_of_length_le (by omega)]
            have hd : ¬ (k : Int) < (o.seen.length : Int) := by omega
            have HST8 := Lib.hid ST
            clear ST hkn'
            go_wp2_with fail
            go_meet
            case rel => exact ⟨_, _, _, rfl, by rw [htk.out]; exact HST8.out⟩
      · have g4 : (o.what == 4) = false := by simp [h4]
        have HT1 : Hid (opTail o = t1) := by show _ = _; rw [HT0.out]; unfold opTail; rw [if_neg h4]
        clear h4
        go_wp2_with fail
        go_meet
        case rel =>
          rw [HT1.out]
          exact ⟨_, _, _, rfl, HST.out⟩
    case rest =>
      obtain ⟨V, n, cv, rfl, ST⟩ := hcut
      have hn := ST.len
      have hl := body_len OK.out
      generalize hB : opHead o ++ opTail o = l at *
      have HB := Lib.hid hB
      have HST := Lib.hid ST
      clear hB
      have hn2 : n ≤ 138 := by omega
      obtain ⟨g, rfl, _, _⟩ := ST.own.head (by rw [hn, ← HB.out]; simp [opHead])
      have HN := Lib.hid hn
      clear hn hl ST
      go_wp2_with fail
      go_loop [5, 6] (fun v i => ∃ k : Nat, k ≤ n ∧ i = .int .i64 k ∧ v = .int .i64 (sumB (l.take k))) (fun v i => n - (intOf i).toNat)
      case atStart => exact ⟨0, by omega, rfl, by simp [sumB]⟩
      case round =>
        obtain ⟨k, hk, rfl, rfl⟩ := hrel
        by_cases hkn : k < n
        · have hkl : k < l.length := by have := HN.out; omega
          have d0 : wc.cell? ⟨g, k, none⟩ = some (.int .u8 (l[k].toNat : Int)) := by
            rw [HST.out.own.cellAt (by omega)]
            simp [bs, hkl]
          have hs1 := sumB_le (l.take k)
          have hs2 : sumB (l.take k) ≤ 40000 := by rw [List.length_take] at hs1; omega
          have hs3 : (l[k].toNat : Nat) ≤ 255 := by have := l[k].toNat_lt; omega
          have HSU := Lib.hid (sumB_take hkl)
          generalize hS : sumB (l.take k) = S at *
          generalize hX : l[k].toNat = X at *
          clear hs1
          go_wp2_with fail
          go_round
          case rel => exact ⟨k + 1, by omega, rfl, by rw [HSU.out]; simp⟩
          case measure => simp [intOf]; omega
        · have hkn' : k = n := by omega
          subst hkn'
          have hlt : l.take k = l := List.take_of_length_le (by have := HN.out; omega)
          rw [hlt]
          clear hlt
          have hres : Hid (opBytes o = l ++ [Go.Proofs.YtlcjgldlblpboaaDoor.u8 ((sumB l : Int) % 253)]) := by show opBytes o = _; unfold opBytes; rw [HB.out]
          have hss := sumB_le l
          have hs2 : sumB l ≤ 40000 := by have := HN.out; omega
          generalize hS : sumB l = S at *
          have ES := u8_val (show (0 : Int) ≤ (S : Int) % 253 by omega) (show (S : Int) % 253 ≤ 255 by omega)
          have RS := Lib.hid (fun W : World => reads_new W [Go.Proofs.YtlcjgldlblpboaaDoor.u8 ((S : Int) % 253)] (by simp) #[.int .u8 ((S : Int) % 253)] (by simp [bs, ES]))
          have hF9 : Fits (k + 1) 1 := Fits.of_small (by omega) (by decide)
          clear ES hss hS
          go_wp2_with (at_builtin; go_loud (refine wpList_app _ (.tmp 94) (.tmp 98) rfl rfl elemB rfl rfl (HST.out.alloc _).own (RS.out _) (oneCells_bs _) hF9 (HST.out.alloc _).base ?_; intro V9 cv9 w9 HO HL HX; have ST9 := (HST.out.alloc _).app HO HL; have hcv := ST9.str (by omega); have HST9 := Lib.hid ST9; clear ST9 HO HL HX))
          go_ret
          exact ⟨by rw [hres.out]; rfl, HST9.out.bel⟩
end Go.Proofs.YtlcjgldlblpboaaDoor

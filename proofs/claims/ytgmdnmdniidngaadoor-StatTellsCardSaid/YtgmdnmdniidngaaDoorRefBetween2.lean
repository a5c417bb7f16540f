/- leafref1.Who, Between, walked. Conditions: the texts' sizes; a writer. -/
import Derived.Test.YtgmdnmdniidngaaDoorPlaceWho
import Derived.Test.YtgmdnmdniidngaaDoorRefBetween
namespace Go.Proofs.YtgmdnmdniidngaaDoor
open Go.RowKit
set_option linter.unusedVariables false
set_option maxRecDepth 100000 in
set_option maxHeartbeats 4000000 in
theorem rwho_any (w : World) (s : ByteArray) (h : placeErr s = 0) : Calls Tryd.prog 17 #[.string s] w (fun e w' => e = .returned (.int .i64 ((byteAt s (s.size - 1) - 97 : Nat) : Int)) ∧ w' = w) := by
  obtain ⟨k1, k2, k3⟩ := okPlace h
  have k5 := k3.1
  obtain ⟨i, hi⟩ : ∃ i, i + 1 = s.size := ⟨s.size - 1, by omega⟩
  have hii : s.size - 1 = i := by omega
  have i2 : i < s.size := by omega
  have e2 : byteAt s (s.size - 1) = (s[i]'i2).toNat := by rw [hii]; exact byteAt_in i2
  have k4 : 97 ≤ (s[i]'i2).toNat := by have := k3.2.1; omega
  have k6 : (s[i]'i2).toNat < 256 := by have := byteAt_lt s (s.size - 1); omega
  rw [e2]
  have q1 : IntKind.i64.wrap ((s.size : Int) - 1) = (i : Int) := by rw [IntWalk.i64_in _ (by omega)]; omega
  have q2 : IntKind.i64.wrap (((s[i]'(by omega)).toNat : Int) - 97) = (((s[i]'(by omega)).toNat - 97 : Nat) : Int) := by rw [IntWalk.i64_in _ (by omega)]; omega
  have i0 : (0 : Int) ≤ (i : Int) := by omega
  have i1 : (i : Int) < (s.size : Int) := by omega
  have i3 : (i : Int).toNat = i := by omega
  have i4 : (i : Int) ≤ 9223372036854775807 := by omega
  clear e2 k2 k3 h hii
  have HI := Lib.hid hi
  clear hi
  go_enter Tryd.func17, Tryd.ntmps17
  go_wp2_with fail
  go_ret
  exact ⟨rfl, rfl⟩
set_option maxRecDepth 100000 in
set_option maxHeartbeats 4000000 in
theorem rbetween_any (w : World) (a b : ByteArray) (who : Int) (ha : a.size ≤ 9223372036854775807) (hb : b.size ≤ 9223372036854775807) (h1 : 1 ≤ who) (h8 : who ≤ 8) :
    Calls Tryd.prog 22 #[.string a, .string b, .int .i64 who] w (CheckPost w (.tuple #[.string (strOf (betweenRes a b who)), .int .i64 (betweenErr a b who)])) := by
  have HT := Lib.hid (rtwo_any w a b ha hb)
  clear ha hb
  have hbe : betweenErr a b who = roomErr a b := by unfold betweenErr; rw [if_neg (by omega)]
  by_cases hr : readyErr a b = 0
  · have hro := ready_ok hr
    have HQ := Lib.hid (rquarter_any w a b hro.1.2 hro.2.2 hro.1.1 hro.2.1)
    rw [hr] at HT
    clear hro
    have hql := quarter_le a b
    by_cases hq : quarter a b = []
    · have HE : Hid (betweenErr a b who = 8) := by show _ = _; rw [hbe]; unfold roomErr; rw [if_neg (fun h => h hr), if_pos hq]
      have HRS : Hid (betweenRes a b who = []) := by show _ = _; unfold betweenRes; rw [if_neg (by rw [HE.out]; decide)]
      rw [hq] at HQ
      clear hq hql hbe hr
      have hz : (strOf ([] : List UInt8)) = ⟨#[]⟩ := rfl
      rw [hz] at HQ
      clear hz
      go_enter Tryd.func22, Tryd.ntmps22
      go_wp2_with fail
      refine HT.out.mono ?_
      rintro e w1 ⟨rfl, hw⟩
      obtain rfl := hw.symm
      clear hw
      go_wp2_with fail
      refine HQ.out.mono ?_
      rintro e w2 ⟨rfl, hb2⟩
      go_wp2_with fail
      go_ret2
      exact ⟨by rw [HE.out, HRS.out]; rfl, hb2⟩
    · have HE : Hid (betweenErr a b who = 0) := by show _ = _; rw [hbe]; unfold roomErr; rw [if_neg (fun h => h hr), if_neg hq]
      have HRS : Hid (betweenRes a b who = quarter a b ++ [UInt8.ofNat (97 + who.toNat)]) := by show _ = _; unfold betweenRes; rw [if_pos HE.out]
      have hm : (strOf (quarter a b)).toList.isEmpty = false := by
        rw [strOf_tl]
        cases hqq : quarter a b with
        | nil => exact absurd hqq hq
        | cons => rfl
      have hsz : (strOf (quarter a b)).size ≤ 11 := by rw [strOf_size]; exact hql
      have HRT : Hid (strOf (betweenRes a b who) = strOf ((strOf (quarter a b)).toList ++ [u8 (97 + who)])) := by
        show _ = _
        rw [HRS.out, strOf_tl]
        unfold u8
        rw [show (97 + who).toNat = 97 + who.toNat by omega]
      clear HRS hq hql hbe hr
      generalize strOf (quarter a b) = m at *
      have q0 : IntKind.i64.wrap (97 + who) = 97 + who := by rw [IntWalk.i64_in _ (by omega)]
      have q1 : IntKind.u8.wrap (97 + who) = 97 + who := IntWalk.u8_in _ (by omega)
      go_enter Tryd.func22, Tryd.ntmps22
      go_wp2_with fail
      refine HT.out.mono ?_
      rintro e w1 ⟨rfl, hw⟩
      obtain rfl := hw.symm
      clear hw
      go_wp2_with fail
      refine HQ.out.mono ?_
      rintro e w2 ⟨rfl, hb2⟩
      obtain ⟨C, w3, hcv, hR3, hB3⟩ := conv_row w2 m (by omega)
      have HR3 := Lib.hid hR3
      have HB3 := Lib.hid hB3
      have HB2 := Lib.hid hb2
      clear hR3 hB3 hb2
      go_wp2_with (at_builtin; go_loud (refine wpList_bytes (.tmp 24) (.tmp 28) rfl rfl rfl rfl (HR3.out.below ((Below.refl _ _).alloc (Nat.le_refl _) _)) (by have := HB3.out.size; simp; omega) (reads_byte w3 (97 + who) (by omega) (by omega) _ rfl) (by decide) (by omega) ?_; intro g' c' w4 HR4 HO4 HG4; have htx := HR4.text; have HR4' := Lib.hid HR4; have HO4' := Lib.hid HO4; clear HR4 HO4 HG4))
      go_ret2
      have HBa := (HB2.out.trans (HB3.out.mono HB2.out.size)).alloc (Nat.le_trans HB2.out.size HB3.out.size) (.cells #[.int .u8 (97 + who)] 5)
      exact ⟨by rw [HE.out, HRT.out]; rfl, HBa.trans (HO4'.out.below HBa.size (fun g hg => by rw [List.mem_singleton.1 hg]; exact HB2.out.size))⟩
  · have HE : Hid (betweenErr a b who = readyErr a b) := by show _ = _; rw [hbe]; unfold roomErr; rw [if_pos hr]
    have HRS : Hid (betweenRes a b who = []) := by show _ = _; unfold betweenRes; rw [if_neg (by rw [HE.out]; exact hr)]
    have p1 : (readyErr a b != 0) = true := by simpa using hr
    have p2 : (readyErr a b == 0) = false := by simpa using hr
    clear hbe
    generalize readyErr a b = R at *
    go_enter Tryd.func22, Tryd.ntmps22
    go_wp2_with fail
    refine HT.out.mono ?_
    rintro e w1 ⟨rfl, hw⟩
    obtain rfl := hw.symm
    clear hw
    go_wp2_with fail
    go_ret2
    exact ⟨by rw [HE.out, HRS.out]; rfl, Below.refl _ _⟩
end Go.Proofs.YtgmdnmdniidngaaDoor

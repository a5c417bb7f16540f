/- 2 texts in one: each says ahead of itself what is proved, and its conditions. -/
import Derived.Test.YtgmdnmdniidngaaDoorPlace4
import Derived.Test.YtgmdnmdniidngaaDoorRefNth
import Derived.Test.YtgmdnmdniidngaaDoorRefPlace
/- place.Room, walked. Conditions: texts no longer than an int may count. -/
namespace Go.Proofs.YtgmdnmdniidngaaDoor
open Go.RowKit
set_option linter.unusedVariables false

def RoomPost (w : World) (a b : ByteArray) (e : Ending) (w' : World) : Prop :=
  e = .returned (.tuple #[.int .i64 (if roomErr a b = 0 then ((quarter a b).length : Int) + 1 else 0), errV (roomErr a b)]) ∧ Below w.heap.size w w'

set_option maxRecDepth 100000 in
set_option maxHeartbeats 1000000 in
theorem room_any (w : World) (a b : ByteArray) (ha : a.size ≤ 9223372036854775807) (hb : b.size ≤ 9223372036854775807) :
    Calls Tryd.prog 21 #[.string a, .string b] w (RoomPost w a b) := by
  have HR := Lib.hid (ready_any w a b ha hb)
  clear ha hb
  by_cases h : readyErr a b = 0
  · obtain ⟨⟨k1, k2⟩, k3, k4⟩ := ready_ok h
    have HQ := Lib.hid (fun w => quarter_any w a b k1 k3 k2 k4)
    have hq := quarter_le a b
    have HH := Lib.hid h
    clear h k1 k2 k3 k4
    by_cases hn : quarter a b = []
    · have hroom : roomErr a b = 8 := by unfold roomErr; rw [if_neg (fun h => h HH.out), if_pos hn]
      have HRM := Lib.hid hroom
      have HN := Lib.hid hn
      clear hroom hn hq
      go_enter Tryd.func21, Tryd.ntmps21
      go_wp2_with fail
      refine HR.out.mono ?_
      rintro e w1 ⟨rfl, hb1⟩
      rw [HH.out, show errV 0 = .nilIface from rfl]
      go_wp2_with fail
      refine (HQ.out _).mono ?_
      rintro e w2 ⟨rfl, hb2⟩
      rw [HN.out, strOf_nil]
      go_wp2_with fail
      go_ret2
      exact ⟨by rw [HRM.out]; rfl, hb1.trans (hb2.mono hb1.size)⟩
    · have hroom : roomErr a b = 0 := by unfold roomErr; rw [if_neg (fun h => h HH.out), if_neg hn]
      have hE : (strOf (quarter a b)).toList.isEmpty = false := isEmpty_not (by rw [strOf_size]; exact fun h => hn (List.eq_nil_of_length_eq_zero h))
      have HRM := Lib.hid hroom
      have hsz := strOf_size (quarter a b)
      have hsz2 : (strOf (quarter a b)).size ≤ 11 := by omega
      have HSZ := Lib.hid hsz
      clear hroom hn hq hsz
      obtain ⟨q, hq⟩ : ∃ q, q = strOf (quarter a b) := ⟨_, rfl⟩
      rw [← hq] at hE hsz2
      have HQE := Lib.hid hq
      clear hq
      go_enter Tryd.func21, Tryd.ntmps21
      go_wp2_with fail
      refine HR.out.mono ?_
      rintro e w1 ⟨rfl, hb1⟩
      rw [HH.out, show errV 0 = .nilIface from rfl]
      go_wp2_with fail
      refine (HQ.out _).mono ?_
      rintro e w2 ⟨rfl, hb2⟩
      rw [← HQE.out]
      go_wp2_with fail
      go_ret2
      refine ⟨?_, hb1.trans (hb2.mono hb1.size)⟩
      have hs := HSZ.out
      rw [← HQE.out] at hs
      rw [if_pos HRM.out, HRM.out, ← hs]
      rfl
  · have hroom : roomErr a b = readyErr a b := by unfold roomErr; rw [if_pos h]
    have HV := Lib.hid (errV_ne h)
    have HRM := Lib.hid hroom
    have HH := Lib.hid h
    clear h hroom
    go_enter Tryd.func21, Tryd.ntmps21
    go_wp2_with fail
    refine HR.out.mono ?_
    rintro e w1 ⟨rfl, hb1⟩
    rw [HV.out]
    go_wp2_with fail
    go_ret2
    exact ⟨by rw [HRM.out, if_neg HH.out, HV.out]; rfl, hb1⟩
end Go.Proofs.YtgmdnmdniidngaaDoor
/- leafref1.Two, Quarter, Between, walked. Conditions: the texts' sizes. -/
namespace Go.Proofs.YtgmdnmdniidngaaDoor
open Go.RowKit
set_option linter.unusedVariables false
set_option maxRecDepth 100000 in
set_option maxHeartbeats 4000000 in
theorem rtwo_any (w : World) (a b : ByteArray) (ha : a.size ≤ 9223372036854775807) (hb : b.size ≤ 9223372036854775807) :
    Calls Tryd.prog 19 #[.string a, .string b] w (fun e w' => e = .returned (.int .i64 (readyErr a b)) ∧ w' = w) := by
  have HA := Lib.hid (rplace_any w a ha)
  have HB := Lib.hid (rplace_any w b hb)
  clear ha hb
  obtain ⟨R, hR⟩ : ∃ x, readyErr a b = x := ⟨_, rfl⟩
  have HR := Lib.hid hR
  rw [hR]
  clear hR
  by_cases c1 : a.size ≠ 0 ∧ placeErr a ≠ 0
  · have hE := isEmpty_not c1.1
    have hR2 : Hid (R = placeErr a) := by show _ = _; rw [← HR.out]; unfold readyErr; rw [if_pos c1]
    have p1 : (placeErr a != 0) = true := by simpa using c1.2
    have p2 : (placeErr a == 0) = false := by simpa using c1.2
    have p3 : ¬ placeErr a = 0 := c1.2
    clear c1 HR HB
    generalize placeErr a = pa at *
    go_enter Tryd.func19, Tryd.ntmps19
    go_wp2_with fail
    refine HA.out.mono ?_
    rintro e w1 ⟨rfl, hw⟩
    obtain rfl := hw.symm
    clear hw
    go_wp2_with fail
    refine HA.out.mono ?_
    rintro e w1 ⟨rfl, hw⟩
    obtain rfl := hw.symm
    clear hw
    go_wp2_with fail
    go_ret
    exact ⟨by rw [hR2.out]; rfl, rfl⟩
  · have dA : (a.toList.isEmpty = true) ∨ (a.toList.isEmpty = false ∧ placeErr a = 0) := by
      by_cases h : a.size = 0
      · exact .inl (isEmpty_of h)
      · exact .inr ⟨isEmpty_not h, by have := fun h2 => c1 ⟨h, h2⟩; omega⟩
    by_cases c2 : b.size ≠ 0 ∧ placeErr b ≠ 0
    · have hE := isEmpty_not c2.1
      have hR2 : Hid (R = placeErr b) := by show _ = _; rw [← HR.out]; unfold readyErr; rw [if_neg c1, if_pos c2]
      have p1 : (placeErr b != 0) = true := by simpa using c2.2
      have p2 : (placeErr b == 0) = false := by simpa using c2.2
      have p3 : ¬ placeErr b = 0 := c2.2
      clear c1 c2 HR
      generalize placeErr b = pb at *
      rcases dA with hA | ⟨hA, hpa⟩
      · clear HA
        go_enter Tryd.func19, Tryd.ntmps19
        go_wp2_with fail
        refine HB.out.mono ?_
        rintro e w1 ⟨rfl, hw⟩
        obtain rfl := hw.symm
        clear hw
        go_wp2_with fail
        refine HB.out.mono ?_
        rintro e w1 ⟨rfl, hw⟩
        obtain rfl := hw.symm
        clear hw
        go_wp2_with fail
        go_ret
        exact ⟨by rw [hR2.out]; rfl, rfl⟩
      · rw [hpa] at HA
        clear hpa
        go_enter Tryd.func19, Tryd.ntmps19
        go_wp2_with fail
        refine HA.out.mono ?_
        rintro e w1 ⟨rfl, hw⟩
        obtain rfl := hw.symm
        clear hw
        go_wp2_with fail
        refine HB.out.mono ?_
        rintro e w1 ⟨rfl, hw⟩
        obtain rfl := hw.symm
        clear hw
        go_wp2_with fail
        refine HB.out.mono ?_
        rintro e w1 ⟨rfl, hw⟩
        obtain rfl := hw.symm
        clear hw
        go_wp2_with fail
        go_ret
        exact ⟨by rw [hR2.out]; rfl, rfl⟩
    · have dB : (b.toList.isEmpty = true) ∨ (b.toList.isEmpty = false ∧ placeErr b = 0) := by
        by_cases h : b.size = 0
        · exact .inl (isEmpty_of h)
        · exact .inr ⟨isEmpty_not h, by have := fun h2 => c2 ⟨h, h2⟩; omega⟩
      have hR2 : Hid (R = if a.toList.isEmpty = false ∧ b.toList.isEmpty = false ∧ Op.bytesLess a.toList b.toList = false then 3 else 0) := by
        show _ = _
        rw [← HR.out]; unfold readyErr; rw [if_neg c1, if_neg c2]
        have ea : a.size ≠ 0 ↔ a.toList.isEmpty = false := ⟨isEmpty_not, fun h h2 => by rw [isEmpty_of h2] at h; cases h⟩
        have eb : b.size ≠ 0 ↔ b.toList.isEmpty = false := ⟨isEmpty_not, fun h h2 => by rw [isEmpty_of h2] at h; cases h⟩
        simp only [ea, eb]
      clear c1 c2 HR
      rcases dA with hA | ⟨hA, hpa⟩ <;> rcases dB with hB | ⟨hB, hpb⟩ <;> rw [hA, hB] at hR2
      · clear HA
        clear HB
        rcases three a.toList b.toList with ⟨f1, f2, f3⟩ | ⟨f1, f2, f3⟩ | ⟨f1, f2, f3⟩ <;> rw [f1] at hR2
        all_goals
          go_enter Tryd.func19, Tryd.ntmps19
          go_wp2_with fail
          go_ret
          exact ⟨by rw [hR2.out]; rfl, rfl⟩
      · clear HA
        rw [hpb] at HB
        clear hpb
        rcases three a.toList b.toList with ⟨f1, f2, f3⟩ | ⟨f1, f2, f3⟩ | ⟨f1, f2, f3⟩ <;> rw [f1] at hR2
        all_goals
          go_enter Tryd.func19, Tryd.ntmps19
          go_wp2_with fail
          refine HB.out.mono ?_
          rintro e w1 ⟨rfl, hw⟩
          obtain rfl := hw.symm
          clear hw
          go_wp2_with fail
          go_ret
          exact ⟨by rw [hR2.out]; rfl, rfl⟩
      · rw [hpa] at HA
        clear hpa
        clear HB
        rcases three a.toList b.toList with ⟨f1, f2, f3⟩ | ⟨f1, f2, f3⟩ | ⟨f1, f2, f3⟩ <;> rw [f1] at hR2
        all_goals
          go_enter Tryd.func19, Tryd.ntmps19
          go_wp2_with fail
          refine HA.out.mono ?_
          rintro e w1 ⟨rfl, hw⟩
          obtain rfl := hw.symm
          clear hw
          go_wp2_with fail
          go_ret
          exact ⟨by rw [hR2.out]; rfl, rfl⟩
      · rw [hpa] at HA
        clear hpa
        rw [hpb] at HB
        clear hpb
        rcases three a.toList b.toList with ⟨f1, f2, f3⟩ | ⟨f1, f2, f3⟩ | ⟨f1, f2, f3⟩ <;> rw [f1] at hR2
        all_goals
          go_enter Tryd.func19, Tryd.ntmps19
          go_wp2_with fail
          refine HA.out.mono ?_
          rintro e w1 ⟨rfl, hw⟩
          obtain rfl := hw.symm
          clear hw
          go_wp2_with fail
          refine HB.out.mono ?_
          rintro e w1 ⟨rfl, hw⟩
          obtain rfl := hw.symm
          clear hw
          go_wp2_with fail
          go_ret
          exact ⟨by rw [hR2.out]; rfl, rfl⟩
theorem rcount_empty {a b : ByteArray} {n : Nat} (lb : Letters b) : ((rcount a b n n 0 : Nat) : Int) = many a b n := by
  rw [many_cnt (low_of lb)]
  unfold rcount
  rw [Nat.zero_mul, Nat.zero_add, Nat.one_mul]
  simp [cntN]
theorem val_lt {a b : ByteArray} {n : Nat} (lb : Letters b) (h : 1 ≤ many a b n) : val a b n < 26 ^ n := by
  obtain ⟨_, p2, _⟩ := val_props h
  have hp : 0 < 26 ^ n := Nat.pow_pos (by decide)
  unfold high at p2
  split at p2
  · omega
  · have := numb_lt lb n
    omega
def QuartLoop (w : World) (a b : ByteArray) (v5 : Value) (wr : World) : Prop :=
  ∃ k : Nat, k ≤ 11 ∧ v5 = .int .i64 ((k + 1 : Nat) : Int) ∧ Hid (quarter a b = quarterFrom a b (k + 1) (11 - k)) ∧ Hid (Below w.heap.size w wr)
set_option maxRecDepth 100000 in
set_option maxHeartbeats 4000000 in
theorem rquarter_any (w : World) (a b : ByteArray) (la : Letters a) (lb : Letters b) (sa : a.size ≤ 12) (sb : b.size ≤ 12) :
    Calls Tryd.prog 20 #[.string a, .string b] w (CheckPost w (.string (strOf (quarter a b)))) := by
  have HM := Lib.hid (fun n h1 h11 W => rmany_any a b la lb sa sb n h1 h11 n ⟨#[]⟩ W (by intro c hc; simp [ByteArray.toList_eq] at hc) (by show 0 + n = n; omega))
  have HN := Lib.hid (fun n h1 h11 X k0 hX hXn hk W => rnth_any W a b la lb sa sb n h1 h11 X k0 hX hXn hk)
  rw [empty_num] at HM
  have HRC := Lib.hid (fun n => rcount_empty (a := a) (n := n) lb)
  have HVL := Lib.hid (fun n => val_lt (a := a) (n := n) lb)
  clear la lb sa sb
  go_enter Tryd.func20, Tryd.ntmps20
  go_wp2_with fail
  go_loopw [5] (fun v5 wr => QuartLoop w a b v5 wr) (fun v5 _ => 12 - (intOf v5).toNat)
  case atStart => exact ⟨0, by omega, rfl, rfl, Below.refl _ _⟩
  case round =>
    obtain ⟨k, hk, rfl, HQ, HB⟩ := hrel
    by_cases hk11 : k < 11
    · have k1 : ((k + 1 : Nat) : Int) ≤ 11 := by omega
      have q1 : IntKind.i64.wrap (((k + 1 : Nat) : Int) + 1) = ((k + 1 + 1 : Nat) : Int) := by rw [IntWalk.i64_in _ (by omega)]; omega
      have HC := Lib.hid (HM.out (k + 1) (by omega) (by omega) wr)
      have hm := HRC.out (k + 1)
      have HQ2 : Hid (quarterFrom a b (k + 1) (11 - k) = if many a b (k + 1) < 1 then quarterFrom a b (k + 2) (11 - (k + 1)) else lets (val a b (k + 1)) (k + 1)) := by
        show _ = _
        obtain ⟨q, hq⟩ : ∃ q, 11 - k = q + 1 := ⟨10 - k, by omega⟩
        have hq2 : 11 - (k + 1) = q := by omega
        rw [hq, hq2, quarterFrom]
      have hmle : rcount a b (k + 1) (k + 1) 0 ≤ 3670344486987776 := by
        have h1 := cnt_le (numb a (k + 1)) (hiOf b.toList (k + 1)) ((0 + 1) * 26 ^ (k + 1))
        have h2 := pow_le (k + 1) (by omega)
        unfold rcount
        omega
      have HV := Lib.hid (fun h => val_cnt (a := a) (b := b) (n := k + 1) h)
      rw [← hm] at HQ2 HV
      have HVL2 := HVL.out (k + 1)
      rw [← hm] at HVL2
      have HVLT := Lib.hid HVL2
      clear hm HVL2
      generalize hM : rcount a b (k + 1) (k + 1) 0 = M at *
      clear hM
      go_wp2_with fail
      refine (show Calls Tryd.prog 44 _ wr _ from HC.out).mono ?_
      rintro e w1 ⟨rfl, hb1⟩
      have HB1 : Hid (Below w.heap.size w w1) := HB.out.trans (hb1.mono HB.out.size)
      clear hb1 HC
      by_cases hM1 : 1 ≤ M
      · have k2 : (0 : Int) < (M : Int) := by omega
        obtain ⟨o1, o2⟩ := HV.out (by omega)
        have o3 : cntN (numb a (k + 1)) (hiOf b.toList (k + 1)) (val a b (k + 1)) = (M - 1) / 4 := by omega
        have HCN := Lib.hid (HN.out (k + 1) (by omega) (by omega) (val a b (k + 1)) ((M - 1) / 4) o1 (HVLT.out (by omega)) o3 w1)
        have HRES : Hid (quarter a b = lets (val a b (k + 1)) (k + 1)) := by
          show _ = _
          rw [HQ.out, HQ2.out, if_neg (by omega)]
        have q2 : IntKind.i64.wrap ((M : Int) - 1) = ((M - 1 : Nat) : Int) := by rw [IntWalk.i64_in _ (by omega)]; omega
        clear o1 o2 o3 HV HVLT HQ2
        go_wp2_with fail
        have hq : ((M - 1 : Nat) : Int) / 4 = (((M - 1) / 4 : Nat) : Int) := by omega
        rw [hq]
        refine (show Calls Tryd.prog 45 _ w1 _ from HCN.out).mono ?_
        rintro e w2 ⟨rfl, hb2⟩
        have HB2 : Hid (Below w.heap.size w w2) := HB1.out.trans (hb2.mono HB1.out.size)
        clear hb2 hq
        go_wp2_with fail
        go_ret
        exact ⟨by rw [HRES.out]; rfl, HB2.out⟩
      · have k2 : ¬ (0 : Int) < (M : Int) := by omega
        have HRES : Hid (quarter a b = quarterFrom a b (k + 1 + 1) (11 - (k + 1))) := by
          show _ = _
          rw [HQ.out, HQ2.out, if_pos (by omega)]
        go_wp2_with fail
        go_roundw
        case rel => exact ⟨k + 1, by omega, by go_num, HRES, HB1⟩
        case measure => simp [intOf]; omega
    · have k1 : ¬ ((k + 1 : Nat) : Int) ≤ 11 := by omega
      have hk' : k = 11 := by omega
      subst hk'
      go_wp2_with fail
      go_ret
      exact ⟨by rw [HQ.out]; rfl, HB.out⟩
end Go.Proofs.YtgmdnmdniidngaaDoor

/- Package place, walked: the first quarter, between, room. Conditions: stated with each. -/
import Derived.Test.YtgmdnmdniidngaaDoorPlace2
namespace Go.Proofs.YtgmdnmdniidngaaDoor
open Go.RowKit
set_option linter.unusedVariables false

theorem upTo_int (w : World) (x : Int) (h0 : 0 ≤ x) (h : x ≤ 3670344486987776) :
    Calls Tryd.prog 63 #[.int .i64 x] w fun e w' => e = .returned (.int .i64 (x - x / 26)) ∧ w' = w := by
  go_enter Tryd.func63, Tryd.ntmps63
  go_wp2
  go_ret
  exact ⟨rfl, rfl⟩
theorem letters_int (w : World) (x : Int) (n : Nat) (hn : n ≤ 11) (h0 : 0 ≤ x) (hx : x ≤ 3670344486987776) :
    Calls Tryd.prog 64 #[.int .i64 x, .int .i64 n] w fun e w' => e = .returned (.string (strOf (lets x.toNat n))) ∧ Below w.heap.size w w' := by
  obtain ⟨k, rfl⟩ := Int.eq_ofNat_of_zero_le h0
  exact letters_any w k n hn (by omega)

def QuarterLoop (w : World) (a b : ByteArray) (v s : Value) (wr : World) : Prop :=
  ∃ n S : Nat, n ≤ 11 ∧ v = .int .i64 ((n : Int) + 1) ∧ s = .int .i64 S ∧ Hid (S = 26 ^ n) ∧ Hid (quarter a b = quarterFrom a b (n + 1) (11 - n)) ∧ Below w.heap.size w wr
def QuarterPost (w : World) (a b : ByteArray) (e : Ending) (w' : World) : Prop := e = .returned (.string (strOf (quarter a b))) ∧ Below w.heap.size w w'

theorem high_le {a b : ByteArray} (lb : Letters b) (n : Nat) (hn : n ≤ 11) : high b n ≤ 3670344486987775 ∧ -1 ≤ high b n := by
  have h2 := pow26_le hn
  have h3 := numb_lt lb n
  unfold high
  split <;> omega
theorem from_next {a b : ByteArray} {n f : Nat} (h : many a b n < 1) : quarterFrom a b n (f + 1) = quarterFrom a b (n + 1) f := by
  rw [quarterFrom, if_pos h]
theorem from_here {a b : ByteArray} {n f : Nat} (h : ¬ many a b n < 1) : quarterFrom a b n (f + 1) = lets (val a b n) n := by
  rw [quarterFrom, if_neg h]
theorem many_low {a b : ByteArray} {n : Nat} (h : high b n < numb a n) : many a b n < 1 := by
  unfold many; rw [if_pos h]; decide
theorem many_eq {a b : ByteArray} {n : Nat} (h : ¬ high b n < numb a n) : many a b n = (high b n - high b n / 26) - ((numb a n : Int) - numb a n / 26) := by
  unfold many; rw [if_neg h]; unfold upTo; omega
theorem val_eq {a b : ByteArray} {n : Nat} (h : ¬ high b n < numb a n) (h1 : ¬ many a b n < 1) :
    (val a b n : Int) = ((numb a n : Int) - numb a n / 26 + (many a b n - 1) / 4) + ((numb a n : Int) - numb a n / 26 + (many a b n - 1) / 4) / 25 + 1 := by
  unfold val kth upTo; omega

set_option maxRecDepth 100000 in
set_option maxHeartbeats 4000000 in
theorem quarter_any (w : World) (a b : ByteArray) (ha : a.size ≤ 12) (hb : b.size ≤ 12) (la : Letters a) (lb : Letters b) :
    Calls Tryd.prog 47 #[.string a, .string b] w (QuarterPost w a b) := by
  have NA := Lib.hid (fun w n (hn : n ≤ 11) => number_any w a n hn ha la)
  have NB := Lib.hid (fun w n (hn : n ≤ 11) => number_any w b n hn hb lb)
  have LA := Lib.hid la
  have LB := Lib.hid lb
  clear la lb
  go_enter Tryd.func47, Tryd.ntmps47
  go_wp2_with fail
  go_loopw [6, 5] (fun v s wr => QuarterLoop w a b v s wr) (fun v _ _ => (12 - (intOf v).toNat))
  case atStart => exact ⟨0, 1, by omega, rfl, rfl, rfl, rfl, Below.refl _ _⟩
  case round =>
    obtain ⟨n, S, hn, rfl, rfl, hS, hq, hBel⟩ := hrel
    by_cases hlt : n < 11
    · have hS1 : S ≤ 141167095653376 := by
        rw [hS.out]
        calc 26 ^ n ≤ 26 ^ 10 := Nat.pow_le_pow_right (by decide) (by omega)
          _ = 141167095653376 := by decide
      have hS2 : (S : Int) * 26 = ((26 ^ (n + 1) : Nat) : Int) := by rw [hS.out, Nat.pow_succ]; omega
      have HS2 := Lib.hid hS2
      have hL1 : numb a (n + 1) ≤ 3670344486987776 := Nat.le_trans (Nat.le_of_lt (numb_lt LA.out (n + 1))) (pow26_le (by omega))
      have hL2 : numb b (n + 1) ≤ 3670344486987776 := Nat.le_trans (Nat.le_of_lt (numb_lt LB.out (n + 1))) (pow26_le (by omega))
      obtain ⟨hh1, hh2⟩ := high_le (a := a) LB.out (n + 1) (by omega)
      have NA1 := Lib.hid (fun w => NA.out w (n + 1) (by omega))
      have NB1 := Lib.hid (fun w => NB.out w (n + 1) (by omega))
      clear hS2
      have hn1 : ((n : Int) + 1) = ((n + 1 : Nat) : Int) := by omega
      have HN1 := Lib.hid hn1
      clear hn1
      go_wp2_with fail
      rw [HN1.out]
      refine (NA1.out wr).mono ?_
      rintro e w1 ⟨rfl, rfl⟩
      go_upto_if 24 with (fail)
      go_cut [8] (fun h wx => h = .int .i64 (high b (n + 1)) ∧ wx = w1)
      case first =>
        cases hE : b.toList.isEmpty with
        | true =>
          have HZ : Hid (b.size = 0) := by
            rcases Nat.eq_zero_or_pos b.size with h | h
            · exact h
            · rw [isEmpty_not (by omega)] at hE; cases hE
          go_wp2_with fail
          go_meet
          case rel => exact ⟨by unfold high; rw [if_pos HZ.out]; congr 1; have := HS2.out; omega, rfl⟩
        | false =>
          have HZ : Hid (b.size ≠ 0) := fun h => by rw [isEmpty_of h] at hE; cases hE
          go_wp2_with fail
          rw [HN1.out]
          refine (NB1.out w1).mono ?_
          rintro e w2 ⟨rfl, rfl⟩
          go_wp2_with fail
          go_meet
          case rel => exact ⟨by unfold high; rw [if_neg HZ.out], rfl⟩
      case rest =>
        obtain ⟨rfl, rfl⟩ := hcut
        have MEQ := Lib.hid (many_eq (a := a) (b := b) (n := n + 1))
        have VEQ := Lib.hid (val_eq (a := a) (b := b) (n := n + 1))
        have QN := Lib.hid (from_next (a := a) (b := b) (n := n + 1) (f := 10 - n))
        have QH := Lib.hid (from_here (a := a) (b := b) (n := n + 1) (f := 10 - n))
        have hq2 : Hid (quarter a b = quarterFrom a b (n + 1) ((10 - n) + 1)) := by
          have := hq.out
          rwa [show 11 - n = (10 - n) + 1 by omega] at this
        by_cases h1 : high b (n + 1) < numb a (n + 1)
        · go_wp2_with fail
          go_roundw
          case rel => exact ⟨n + 1, 26 ^ (n + 1), by omega, by go_num, by rw [← HS2.out], rfl, by
            show quarter a b = _
            rw [hq2.out, QN.out (many_low h1), show 11 - (n + 1) = 10 - n by omega], hBel⟩
          case measure => simp [intOf]; omega
        · have hM := MEQ.out h1
          generalize hm : many a b (n + 1) = M at *
          generalize hHi : high b (n + 1) = Hi at *
          generalize hLo : numb a (n + 1) = Lo at *
          have HM := Lib.hid hM
          have HmM := Lib.hid hm
          clear hM hm hHi hLo
          go_wp2_with fail
          refine (upTo_int _ (Lo : Int) (by omega) (by omega)).mono ?_
          rintro e w2 ⟨rfl, rfl⟩
          go_wp2_with fail
          refine (upTo_int _ Hi (by omega) (by omega)).mono ?_
          rintro e w3 ⟨rfl, rfl⟩
          by_cases hm1 : Hi - Hi / 26 - ((Lo : Int) - Lo / 26) < 1
          · go_wp2_with fail
            go_roundw
            case rel => exact ⟨n + 1, 26 ^ (n + 1), by omega, by go_num, by rw [← HS2.out], rfl, by
              show quarter a b = _
              rw [hq2.out, QN.out (by rw [HM.out]; exact hm1), show 11 - (n + 1) = 10 - n by omega], hBel⟩
            case measure => simp [intOf]; omega
          · go_wp2_with fail
            rw [HN1.out]
            have hV := VEQ.out (by omega) (by rw [HM.out]; exact hm1)
            rw [HM.out] at hV
            rw [← hV]
            have hvle : (val a b (n + 1) : Int) ≤ 3670344486987776 := by omega
            refine (letters_int _ (val a b (n + 1) : Int) (n + 1) (by omega) (by omega) hvle).mono ?_
            rintro e w4 ⟨rfl, hb4⟩
            have HV := Lib.hid hV
            clear hV hvle
            go_wp2_with fail
            go_ret
            refine ⟨?_, hBel.trans (hb4.mono hBel.size)⟩
            rw [hq2.out, QH.out (by rw [HM.out]; exact hm1)]
            simp
    · obtain rfl : n = 11 := by omega
      go_wp2_with fail
      go_ret
      exact ⟨by rw [hq.out]; rfl, hBel⟩
end Go.Proofs.YtgmdnmdniidngaaDoor

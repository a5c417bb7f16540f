/- 4 texts in one: each says ahead of itself what is proved, and its conditions. -/
import Derived.Test.YthfbjfocmnikaaaGreatDoorPlaceCheck
/- Package place, walked: numbers and letters. Conditions: stated with each. -/
namespace Go.Proofs.YthfbjfocmnikaaaGreatDoor
open Go.RowKit
set_option linter.unusedVariables false


set_option maxHeartbeats 1000000 in
theorem number_any (w : World) (s : ByteArray) (n : Nat) (hn : n ≤ 11) (hs : s.size ≤ 12) (hl : Letters s) :
    Calls Tryz.prog 232 #[.string s, .int .i64 n] w fun e w' => e = .returned (.int .i64 (numb s n)) ∧ w' = w := by
  have HL := Lib.hid hl
  clear hl
  go_enter Tryz.func232, Tryz.ntmps232
  go_wp2
  go_loop [8, 5] (fun i o => ∃ k : Nat, k ≤ n ∧ i = .int .i64 k ∧ o = .int .i64 (numb s k)) (fun i _ => n - (intOf i).toNat)
  case atStart => exact ⟨0, Nat.zero_le _, rfl, rfl⟩
  case round =>
    obtain ⟨k, hk, rfl, rfl⟩ := hrel
    have hb : numb s k ≤ 3670344486987776 := Nat.le_trans (Nat.le_of_lt (numb_lt HL.out k)) (pow26_le (by omega))
    have hsucc : numb s (k + 1) = numb s k * 26 + dig s k := rfl
    have HS := Lib.hid hsucc
    clear hsucc
    by_cases hlt : k < n
    · by_cases hks : k < s.size
      · have h1 : 97 ≤ s[k].toNat ∧ s[k].toNat ≤ 122 := by have := HL.out k hks; rwa [byteAt_in hks] at this
        have hd : dig s k = s[k].toNat - 97 := by simp [dig, hks, byteAt_in hks]
        have HD := Lib.hid hd
        clear hd
        go_wp2
        go_round
        case rel => exact ⟨k + 1, by omega, by go_num, by rw [HS.out, HD.out]; congr 1; omega⟩
        case measure => simp [intOf]; omega
      · have hd : dig s k = 0 := by simp [dig, hks]
        have HD := Lib.hid hd
        clear hd
        go_wp2
        go_round
        case rel => exact ⟨k + 1, by omega, by go_num, by rw [HS.out, HD.out]; congr 1⟩
        case measure => simp [intOf]; omega
    · obtain rfl : k = n := by omega
      go_wp2
      go_ret
      exact ⟨rfl, rfl⟩
def LetsLoop (w : World) (x n : Nat) (i v : Value) (wr : World) : Prop :=
  ∃ (k y : Nat) (i' : Int) (tail : List UInt8), k ≤ n ∧ i' = (k : Int) - 1 ∧ i = .int .i64 i' ∧ v = .int .i64 y ∧ y ≤ 3670344486987776 ∧ lets x n = lets y k ++ tail ∧ tail.length = n - k ∧
    Blk wr w.heap.size 5 ((List.replicate k (Value.int .u8 0) ++ u8s tail).toArray) ∧ Below w.heap.size w wr
set_option maxHeartbeats 1000000 in
theorem letters_any (w : World) (x n : Nat) (hn : n ≤ 11) (hx : x ≤ 3670344486987776) :
    Calls Tryz.prog 234 #[.int .i64 x, .int .i64 n] w fun e w' => e = .returned (.string (strOf (lets x n))) ∧ Below w.heap.size w w' := by
  have hmk := run_make_row' (P := Tryz.prog) 122 5 (.int .u8 0) 1 Tryz.underlying122 (by kernel_rfl) rfl .i64 .i64 n (by omega) (by omega)
  have hblk : (madeCells #[.int .u8 0] n) = (List.replicate n (Value.int .u8 0)).toArray := by
    apply Array.ext'
    simp [madeCells]
    apply List.ext_getElem <;> simp [Nat.mod_one]
  rw [hblk] at hmk
  clear hblk
  generalize hC : (List.replicate n (Value.int .u8 0)).toArray = C at hmk
  have HC := Lib.hid hC
  clear hC
  go_enter Tryz.func234, Tryz.ntmps234
  go_wp2_with fail
  go_loopw [6, 0] (fun i v wr => LetsLoop w x n i v wr) (fun i _ _ => (intOf i + 1).toNat)
  case atStart =>
    refine ⟨n, x, _, [], Nat.le_refl _, rfl, rfl, rfl, hx, by simp, by simp, ?_, (Below.refl _ _).alloc (Nat.le_refl _) _⟩
    have := Blk.new w 5 C
    simpa [u8s, HC.out] using this
  case round =>
    obtain ⟨k, y, i', tail, hk, hi, rfl, rfl, hy, hlet, htl, hB, hBel⟩ := hrel
    have HLET := Lib.hid hlet
    have HTL := Lib.hid htl
    clear hlet htl
    rcases Nat.eq_zero_or_pos k with h0 | h0
    · obtain rfl : i' = -1 := by omega
      subst h0
      have HI := Lib.hid hi
      clear hi
      have hcells : ∀ j (hj : j < (lets x n).length), wr.cell? ((⟨w.heap.size, 0, none⟩ : Addr).add j) = some (.int .u8 ((lets x n)[j].toNat : Int)) := by
        intro j hj
        have e : (⟨w.heap.size, 0, none⟩ : Addr).add j = ⟨w.heap.size, j, none⟩ := by unfold Addr.add; by_cases h : j = 0 <;> simp [h]
        rw [e, hB.cell]
        have hl : lets x n = tail := by have := HLET.out; simpa [lets] using this
        simp [u8s, ← hl, hj]
      have hcv := run_convert_bytes_back (P := Tryz.prog) wr 122 9 5 ⟨w.heap.size, 0, none⟩ n (lets x n) Tryz.underlying122 Tryz.underlying5 Tryz.underlying9 hcells
      rw [lets_len] at hcv
      clear hcells
      go_wp2
      go_ret
      exact ⟨rfl, hBel⟩
    · obtain ⟨j, rfl⟩ : ∃ j, k = j + 1 := ⟨k - 1, by omega⟩
      obtain rfl : i' = (j : Int) := by omega
      clear hi
      have hj : j < n := by omega
      have hc : wr.cell? ⟨w.heap.size, j, none⟩ = some (.int .u8 0) := by
        rw [hB.cell]; simp [List.getElem?_append]
      have hf := hB.frozen j
      go_wp2
      go_roundw
      case rel =>
        have hm : (UInt8.ofNat (97 + y % 26)).toNat = 97 + y % 26 := by simp; omega
        refine ⟨j, y / 26, _, UInt8.ofNat (97 + y % 26) :: tail, by omega, rfl, rfl, by go_num, by omega, ?_, ?_, ?_, hBel.setCell (Nat.le_refl _) _⟩
        · rw [HLET.out]; simp [lets]
        · have := HTL.out; simp only [List.length_cons, this]; omega
        · have hx2 := hB.set_ j (.int .u8 (97 + (y : Int) % 26))
          have e : ((List.replicate (j + 1) (Value.int .u8 0) ++ u8s tail).toArray.setIfInBounds j (.int .u8 (97 + (y : Int) % 26))) = (List.replicate j (Value.int .u8 0) ++ u8s (UInt8.ofNat (97 + y % 26) :: tail)).toArray := by
            apply Array.ext'
            simp only [List.setIfInBounds_toArray, u8s, List.map_cons, hm]
            rw [List.set_append_left _ _ (by simp), List.replicate_succ', List.set_append_right _ _ (by simp)]
            simp
          rwa [e] at hx2
      case measure => simp [intOf]
end Go.Proofs.YthfbjfocmnikaaaGreatDoor
/- place.ready, walked. Conditions: stated with each. -/
namespace Go.Proofs.YthfbjfocmnikaaaGreatDoor
open Go.RowKit
set_option linter.unusedVariables false


def ReadyLoop (w : World) (a b : ByteArray) (v : Value) (wr : World) : Prop :=
  ∃ k : Nat, k ≤ 2 ∧ v = .int .i64 k ∧ wr.cell? ⟨w.heap.size, 0, none⟩ = some (.string a) ∧ wr.cell? ⟨w.heap.size, 1, none⟩ = some (.string b) ∧ w.heap.size < wr.heap.size ∧ Below w.heap.size w wr ∧
    Hid (1 ≤ k → a.size = 0 ∨ placeErr a = 0) ∧ Hid (2 ≤ k → b.size = 0 ∨ placeErr b = 0)
set_option maxRecDepth 100000 in
set_option maxHeartbeats 2000000 in
theorem ready_any (w : World) (a b : ByteArray) (ha : a.size ≤ 9223372036854775807) (hb : b.size ≤ 9223372036854775807) :
    Calls Tryz.prog 196 #[.string a, .string b] w (CheckPost w (errV (readyErr a b))) := by
  have HA := Lib.hid (fun w => check_any w a ha)
  have HB := Lib.hid (fun w => check_any w b hb)
  clear ha hb
  go_enter Tryz.func196, Tryz.ntmps196
  go_wp2_with fail
  go_loopw [12] (fun v wr => ReadyLoop w a b v wr) (fun v _ => (2 - (intOf v).toNat))
  case atStart => exact ⟨0, by omega, rfl, by simp [World.cell?_alloc_new], by simp [World.cell?_alloc_new], by simp, (Below.refl _ _).alloc (Nat.le_refl _) _, fun h => by omega, fun h => by omega⟩
  case round =>
    obtain ⟨k, hk, rfl, c0, c1, hlt, hBel, p0, p1⟩ := hrel
    rcases (show k = 0 ∨ k = 1 ∨ k = 2 by omega) with rfl | rfl | rfl
    · by_cases hz : a.size = 0
      · have hE := isEmpty_of hz
        have HZ := Lib.hid hz
        clear hz
        go_wp2_with fail
        go_roundw
        case rel => exact ⟨1, by omega, rfl, c0, c1, hlt, hBel, fun _ => .inl HZ.out, fun h => by omega⟩
        case measure => simp [intOf]
      · have hE := isEmpty_not hz
        have HZ := Lib.hid hz
        clear hz
        by_cases hp : placeErr a = 0
        · have HP := Lib.hid hp
          clear hp
          go_wp2_with fail
          refine (HA.out wr).mono ?_
          rintro e w1 ⟨rfl, hb1⟩
          rw [HP.out, show errV 0 = .nilIface from rfl]
          have d0 : w1.cell? ⟨w.heap.size, 0, none⟩ = some (.string a) := by rw [hb1.cell (by simpa using hlt)]; exact c0
          have d1 : w1.cell? ⟨w.heap.size, 1, none⟩ = some (.string b) := by rw [hb1.cell (by simpa using hlt)]; exact c1
          go_wp2_with fail
          go_roundw
          case rel => exact ⟨1, by omega, rfl, d0, d1, Nat.lt_of_lt_of_le hlt hb1.size, hBel.trans (hb1.mono (by omega)), fun _ => .inr HP.out, fun h => by omega⟩
          case measure => simp [intOf]
        · have HV := Lib.hid (errV_ne hp)
          have HP := Lib.hid hp
          clear hp
          go_wp2_with fail
          refine (HA.out wr).mono ?_
          rintro e w1 ⟨rfl, hb1⟩
          rw [HV.out]
          go_wp2_with fail
          go_ret
          refine ⟨?_, hBel.trans (hb1.mono (by omega))⟩
          rw [show readyErr a b = placeErr a from by unfold readyErr; rw [if_pos ⟨HZ.out, HP.out⟩], HV.out]
          rfl
    · have HK := Lib.hid (p0.out (by omega))
      clear p0 p1
      by_cases hz : b.size = 0
      · have hE := isEmpty_of hz
        have HZ := Lib.hid hz
        clear hz
        go_wp2_with fail
        go_roundw
        case rel => exact ⟨2, by omega, rfl, c0, c1, hlt, hBel, fun _ => HK.out, fun _ => .inl HZ.out⟩
        case measure => simp [intOf]
      · have hE := isEmpty_not hz
        have HZ := Lib.hid hz
        clear hz
        by_cases hp : placeErr b = 0
        · have HP := Lib.hid hp
          clear hp
          go_wp2_with fail
          refine (HB.out wr).mono ?_
          rintro e w1 ⟨rfl, hb1⟩
          rw [HP.out, show errV 0 = .nilIface from rfl]
          have d0 : w1.cell? ⟨w.heap.size, 0, none⟩ = some (.string a) := by rw [hb1.cell (by simpa using hlt)]; exact c0
          have d1 : w1.cell? ⟨w.heap.size, 1, none⟩ = some (.string b) := by rw [hb1.cell (by simpa using hlt)]; exact c1
          go_wp2_with fail
          go_roundw
          case rel => exact ⟨2, by omega, rfl, d0, d1, Nat.lt_of_lt_of_le hlt hb1.size, hBel.trans (hb1.mono (by omega)), fun _ => HK.out, fun _ => .inr HP.out⟩
          case measure => simp [intOf]
        · have HV := Lib.hid (errV_ne hp)
          have HP := Lib.hid hp
          clear hp
          go_wp2_with fail
          refine (HB.out wr).mono ?_
          rintro e w1 ⟨rfl, hb1⟩
          rw [HV.out]
          go_wp2_with fail
          go_ret
          refine ⟨?_, hBel.trans (hb1.mono (by omega))⟩
          rw [show readyErr a b = placeErr b from by unfold readyErr; rw [if_neg (fun h => by rcases HK.out with h1 | h1; exact h.1 h1; exact h.2 h1), if_pos ⟨HZ.out, HP.out⟩], HV.out]
          rfl
    · have HK := Lib.hid (p0.out (by omega))
      have HK2 := Lib.hid (p1.out (by omega))
      have hrd : readyErr a b = if a.size ≠ 0 ∧ b.size ≠ 0 ∧ Op.bytesLess a.toList b.toList = false then 3 else 0 := by
        unfold readyErr
        rw [if_neg (fun h => by rcases HK.out with h1 | h1; exact h.1 h1; exact h.2 h1), if_neg (fun h => by rcases HK2.out with h1 | h1; exact h.1 h1; exact h.2 h1)]
      have HRD := Lib.hid hrd
      clear p0 p1 hrd
      by_cases hza : a.size = 0
      · have hE := isEmpty_of hza
        have HZ := Lib.hid hza
        clear hza
        go_wp2_with fail
        go_ret
        exact ⟨by rw [HRD.out, if_neg (fun h => h.1 HZ.out)]; rfl, hBel⟩
      · have hE := isEmpty_not hza
        have HZ := Lib.hid hza
        clear hza
        by_cases hzb : b.size = 0
        · have hE2 := isEmpty_of hzb
          have HZ2 := Lib.hid hzb
          clear hzb
          go_wp2_with fail
          go_ret
          exact ⟨by rw [HRD.out, if_neg (fun h => h.2.1 HZ2.out)]; rfl, hBel⟩
        · have hE2 := isEmpty_not hzb
          have HZ2 := Lib.hid hzb
          clear hzb
          cases hl : Op.bytesLess a.toList b.toList
          · have HL := Lib.hid hl
            go_wp2_with fail
            go_ret
            exact ⟨by rw [HRD.out, if_pos ⟨HZ.out, HZ2.out, HL.out⟩]; rfl, hBel⟩
          · have HL := Lib.hid hl
            go_wp2_with fail
            go_ret
            exact ⟨by rw [HRD.out, if_neg (fun h => by have := HL.out; rw [h.2.2] at this; cases this)]; rfl, hBel⟩
end Go.Proofs.YthfbjfocmnikaaaGreatDoor
/- Package place, walked: the first quarter, between, room. Conditions: stated with each. -/
namespace Go.Proofs.YthfbjfocmnikaaaGreatDoor
open Go.RowKit
set_option linter.unusedVariables false

theorem upTo_int (w : World) (x : Int) (h0 : 0 ≤ x) (h : x ≤ 3670344486987776) :
    Calls Tryz.prog 233 #[.int .i64 x] w fun e w' => e = .returned (.int .i64 (x - x / 26)) ∧ w' = w := by
  go_enter Tryz.func233, Tryz.ntmps233
  go_wp2
  go_ret
  exact ⟨rfl, rfl⟩
theorem letters_int (w : World) (x : Int) (n : Nat) (hn : n ≤ 11) (h0 : 0 ≤ x) (hx : x ≤ 3670344486987776) :
    Calls Tryz.prog 234 #[.int .i64 x, .int .i64 n] w fun e w' => e = .returned (.string (strOf (lets x.toNat n))) ∧ Below w.heap.size w w' := by
  obtain ⟨k, rfl⟩ := Int.eq_ofNat_of_zero_le h0
  exact letters_any w k n hn (by omega)

def QuarterLoop (w : World) (a b : ByteArray) (v s : Value) (wr : World) : Prop :=
  ∃ n S : Nat, n ≤ 11 ∧ v = .int .i64 ((n : Int) + 1) ∧ s = .int .i64 S ∧ Hid (S = 26 ^ n) ∧ Hid (quarter a b = quarterFrom a b (n + 1) (11 - n)) ∧ Below w.heap.size w wr
def QuarterPost (w : World) (a b : ByteArray) (e : Ending) (w' : World) : Prop := e = .returned (.string (strOf (quarter a b))) ∧ Below w.heap.size w w'

theorem high_le {a b : ByteArray} (lb : Letters b) (n : Nat) (hn : n ≤ 11) : high b n ≤ 3670344486987775 ∧ -1 ≤ high b n := by
  have h2 := pow26_le hn
  have h3 := numb_lt lb n
  unfold high
  split <;> omega
theorem from_next {a b : ByteArray} {n f : Nat} (h : many a b n < 1) : quarterFrom a b n (f + 1) = quarterFrom a b (n + 1) f := by
  rw [quarterFrom, if_pos h]
theorem from_here {a b : ByteArray} {n f : Nat} (h : ¬ many a b n < 1) : quarterFrom a b n (f + 1) = lets (val a b n) n := by
  rw [quarterFrom, if_neg h]
theorem many_low {a b : ByteArray} {n : Nat} (h : high b n < numb a n) : many a b n < 1 := by
  unfold many; rw [if_pos h]; decide
theorem many_eq {a b : ByteArray} {n : Nat} (h : ¬ high b n < numb a n) : many a b n = (high b n - high b n / 26) - ((numb a n : Int) - numb a n / 26) := by
  unfold many; rw [if_neg h]; unfold upTo; omega
theorem val_eq {a b : ByteArray} {n : Nat} (h : ¬ high b n < numb a n) (h1 : ¬ many a b n < 1) :
    (val a b n : Int) = ((numb a n : Int) - numb a n / 26 + (many a b n - 1) / 4) + ((numb a n : Int) - numb a n / 26 + (many a b n - 1) / 4) / 25 + 1 := by
  unfold val kth upTo; omega

set_option maxRecDepth 100000 in
set_option maxHeartbeats 4000000 in
theorem quarter_any (w : World) (a b : ByteArray) (ha : a.size ≤ 12) (hb : b.size ≤ 12) (la : Letters a) (lb : Letters b) :
    Calls Tryz.prog 197 #[.string a, .string b] w (QuarterPost w a b) := by
  have NA := Lib.hid (fun w n (hn : n ≤ 11) => number_any w a n hn ha la)
  have NB := Lib.hid (fun w n (hn : n ≤ 11) => number_any w b n hn hb lb)
  have LA := Lib.hid la
  have LB := Lib.hid lb
  clear la lb
  go_enter Tryz.func197, Tryz.ntmps197
  go_wp2_with fail
  go_loopw [6, 5] (fun v s wr => QuarterLoop w a b v s wr) (fun v _ _ => (12 - (intOf v).toNat))
  case atStart => exact ⟨0, 1, by omega, rfl, rfl, rfl, rfl, Below.refl _ _⟩
  case round =>
    obtain ⟨n, S, hn, rfl, rfl, hS, hq, hBel⟩ := hrel
    by_cases hlt : n < 11
    · have hS1 : S ≤ 141167095653376 := by
        rw [hS.out]
        calc 26 ^ n ≤ 26 ^ 10 := Nat.pow_le_pow_right (by decide) (by omega)
          _ = 141167095653376 := by decide
      have hS2 : (S : Int) * 26 = ((26 ^ (n + 1) : Nat) : Int) := by rw [hS.out, Nat.pow_succ]; omega
      have HS2 := Lib.hid hS2
      have hL1 : numb a (n + 1) ≤ 3670344486987776 := Nat.le_trans (Nat.le_of_lt (numb_lt LA.out (n + 1))) (pow26_le (by omega))
      have hL2 : numb b (n + 1) ≤ 3670344486987776 := Nat.le_trans (Nat.le_of_lt (numb_lt LB.out (n + 1))) (pow26_le (by omega))
      obtain ⟨hh1, hh2⟩ := high_le (a := a) LB.out (n + 1) (by omega)
      have NA1 := Lib.hid (fun w => NA.out w (n + 1) (by omega))
      have NB1 := Lib.hid (fun w => NB.out w (n + 1) (by omega))
      clear hS2
      have hn1 : ((n : Int) + 1) = ((n + 1 : Nat) : Int) := by omega
      have HN1 := Lib.hid hn1
      clear hn1
      go_wp2_with fail
      rw [HN1.out]
      refine (NA1.out wr).mono ?_
      rintro e w1 ⟨rfl, rfl⟩
      go_upto_if 24 with (fail)
      go_cut [8] (fun h wx => h = .int .i64 (high b (n + 1)) ∧ wx = w1)
      case first =>
        cases hE : b.toList.isEmpty with
        | true =>
          have HZ : Hid (b.size = 0) := by
            rcases Nat.eq_zero_or_pos b.size with h | h
            · exact h
            · rw [isEmpty_not (by omega)] at hE; cases hE
          go_wp2_with fail
          go_meet
          case rel => exact ⟨by unfold high; rw [if_pos HZ.out]; congr 1; have := HS2.out; omega, rfl⟩
        | false =>
          have HZ : Hid (b.size ≠ 0) := fun h => by rw [isEmpty_of h] at hE; cases hE
          go_wp2_with fail
          rw [HN1.out]
          refine (NB1.out w1).mono ?_
          rintro e w2 ⟨rfl, rfl⟩
          go_wp2_with fail
          go_meet
          case rel => exact ⟨by unfold high; rw [if_neg HZ.out], rfl⟩
      case rest =>
        obtain ⟨rfl, rfl⟩ := hcut
        have MEQ := Lib.hid (many_eq (a := a) (b := b) (n := n + 1))
        have VEQ := Lib.hid (val_eq (a := a) (b := b) (n := n + 1))
        have QN := Lib.hid (from_next (a := a) (b := b) (n := n + 1) (f := 10 - n))
        have QH := Lib.hid (from_here (a := a) (b := b) (n := n + 1) (f := 10 - n))
        have hq2 : Hid (quarter a b = quarterFrom a b (n + 1) ((10 - n) + 1)) := by
          have := hq.out
          rwa [show 11 - n = (10 - n) + 1 by omega] at this
        by_cases h1 : high b (n + 1) < numb a (n + 1)
        · go_wp2_with fail
          go_roundw
          case rel => exact ⟨n + 1, 26 ^ (n + 1), by omega, by go_num, by rw [← HS2.out], rfl, by
            show quarter a b = _
            rw [hq2.out, QN.out (many_low h1), show 11 - (n + 1) = 10 - n by omega], hBel⟩
          case measure => simp [intOf]; omega
        · have hM := MEQ.out h1
          generalize hm : many a b (n + 1) = M at *
          generalize hHi : high b (n + 1) = Hi at *
          generalize hLo : numb a (n + 1) = Lo at *
          have HM := Lib.hid hM
          have HmM := Lib.hid hm
          clear hM hm hHi hLo
          go_wp2_with fail
          refine (upTo_int _ (Lo : Int) (by omega) (by omega)).mono ?_
          rintro e w2 ⟨rfl, rfl⟩
          go_wp2_with fail
          refine (upTo_int _ Hi (by omega) (by omega)).mono ?_
          rintro e w3 ⟨rfl, rfl⟩
          by_cases hm1 : Hi - Hi / 26 - ((Lo : Int) - Lo / 26) < 1
          · go_wp2_with fail
            go_roundw
            case rel => exact ⟨n + 1, 26 ^ (n + 1), by omega, by go_num, by rw [← HS2.out], rfl, by
              show quarter a b = _
              rw [hq2.out, QN.out (by rw [HM.out]; exact hm1), show 11 - (n + 1) = 10 - n by omega], hBel⟩
            case measure => simp [intOf]; omega
          · go_wp2_with fail
            rw [HN1.out]
            have hV := VEQ.out (by omega) (by rw [HM.out]; exact hm1)
            rw [HM.out] at hV
            rw [← hV]
            have hvle : (val a b (n + 1) : Int) ≤ 3670344486987776 := by omega
            refine (letters_int _ (val a b (n + 1) : Int) (n + 1) (by omega) (by omega) hvle).mono ?_
            rintro e w4 ⟨rfl, hb4⟩
            have HV := Lib.hid hV
            clear hV hvle
            go_wp2_with fail
            go_ret
            refine ⟨?_, hBel.trans (hb4.mono hBel.size)⟩
            rw [hq2.out, QH.out (by rw [HM.out]; exact hm1)]
            simp
    · obtain rfl : n = 11 := by omega
      go_wp2_with fail
      go_ret
      exact ⟨by rw [hq.out]; rfl, hBel⟩
end Go.Proofs.YthfbjfocmnikaaaGreatDoor
/- Package place, walked: between. Conditions: texts no longer than an int may count. -/
namespace Go.Proofs.YthfbjfocmnikaaaGreatDoor
open Go.RowKit
set_option linter.unusedVariables false

def roomErr (a b : ByteArray) : Int := if readyErr a b ≠ 0 then readyErr a b else if quarter a b = [] then 8 else 0
def betweenErr (a b : ByteArray) (who : Int) : Int := if who < 1 ∨ 8 < who then 1 else roomErr a b
def betweenRes (a b : ByteArray) (who : Int) : List UInt8 := if betweenErr a b who = 0 then quarter a b ++ [UInt8.ofNat (97 + who.toNat)] else []

theorem letters_empty {s : ByteArray} (h : s.size = 0) : Letters s := fun i hi => by omega
theorem ready_ok {a b : ByteArray} (h : readyErr a b = 0) : (a.size ≤ 12 ∧ Letters a) ∧ b.size ≤ 12 ∧ Letters b := by
  unfold readyErr at h
  split at h
  · rename_i h1; exact absurd h h1.2
  · rename_i h1
    split at h
    · rename_i h2; exact absurd h h2.2
    · rename_i h2
      constructor
      · by_cases hz : a.size = 0
        · exact ⟨by omega, letters_empty hz⟩
        · have hp : placeErr a = 0 := Decidable.byContradiction fun hp => h1 ⟨hz, hp⟩
          exact ⟨(okPlace hp).1, (okPlace hp).2.1⟩
      · by_cases hz : b.size = 0
        · exact ⟨by omega, letters_empty hz⟩
        · have hp : placeErr b = 0 := Decidable.byContradiction fun hp => h2 ⟨hz, hp⟩
          exact ⟨(okPlace hp).1, (okPlace hp).2.1⟩

theorem quarter_len {a b : ByteArray} : ∀ (f n : Nat), n + f ≤ 12 → (quarterFrom a b n f).length ≤ 11 := by
  intro f
  induction f with
  | zero => intro n _; simp [quarterFrom]
  | succ f ih =>
    intro n hn
    rw [quarterFrom]
    split
    · exact ih (n + 1) (by omega)
    · rw [lets_len]; omega
theorem quarter_le (a b : ByteArray) : (quarter a b).length ≤ 11 := quarter_len 11 1 (by omega)

def BetweenPost (w : World) (a b : ByteArray) (who : Int) (e : Ending) (w' : World) : Prop :=
  e = .returned (.tuple #[.string (strOf (betweenRes a b who)), errV (betweenErr a b who)]) ∧ Below w.heap.size w w'

set_option maxRecDepth 100000 in
set_option maxHeartbeats 1000000 in
theorem between_any (w : World) (a b : ByteArray) (who : Int) (ha : a.size ≤ 9223372036854775807) (hb : b.size ≤ 9223372036854775807) :
    Calls Tryz.prog 153 #[.string a, .string b, .int .i64 who] w (BetweenPost w a b who) := by
  have HR := Lib.hid (fun w => ready_any w a b ha hb)
  have HAU := Lib.hid (author_any w who)
  clear ha hb
  by_cases hw : who < 1 ∨ 8 < who
  · have hbe : betweenErr a b who = 1 := by unfold betweenErr; rw [if_pos hw]
    have hbr : betweenRes a b who = [] := by unfold betweenRes; rw [if_neg (by rw [hbe]; decide)]
    have hau : (decide (1 ≤ who) && decide (who ≤ 8)) = false := by simp; omega
    have HBE := Lib.hid hbe
    have HBR := Lib.hid hbr
    have HA := Lib.hid hau
    clear hbe hbr hw hau
    go_enter Tryz.func153, Tryz.ntmps153
    go_wp2_with fail
    refine HAU.out.mono ?_
    rintro e w1 ⟨rfl, rfl⟩
    rw [HA.out]
    go_wp2_with fail
    go_ret2
    exact ⟨by rw [HBE.out, HBR.out]; rfl, Below.refl _ _⟩
  · have hau : (decide (1 ≤ who) && decide (who ≤ 8)) = true := by simp; omega
    have hbe : betweenErr a b who = roomErr a b := by unfold betweenErr; rw [if_neg hw]
    have hw0 : 1 ≤ who := by omega
    have hw1 : who ≤ 8 := by omega
    have HBE := Lib.hid hbe
    have HA := Lib.hid hau
    clear hbe hw hau
    by_cases h : readyErr a b = 0
    · obtain ⟨⟨k1, k2⟩, k3, k4⟩ := ready_ok h
      have HQ := Lib.hid (fun w => quarter_any w a b k1 k3 k2 k4)
      have hq := quarter_le a b
      have HH := Lib.hid h
      clear h k1 k2 k3 k4
      by_cases hn : quarter a b = []
      · have hroom : roomErr a b = 8 := by unfold roomErr; rw [if_neg (fun h => h HH.out), if_pos hn]
        have hbr : betweenRes a b who = [] := by unfold betweenRes; rw [if_neg (by rw [HBE.out, hroom]; decide)]
        have HRM := Lib.hid hroom
        have HBR := Lib.hid hbr
        have HN := Lib.hid hn
        clear hroom hn hq hbr
        go_enter Tryz.func153, Tryz.ntmps153
        go_wp2_with fail
        refine HAU.out.mono ?_
        rintro e w1 ⟨rfl, rfl⟩
        rw [HA.out]
        go_wp2_with fail
        refine (HR.out _).mono ?_
        rintro e w1 ⟨rfl, hb1⟩
        rw [HH.out, show errV 0 = .nilIface from rfl]
        go_wp2_with fail
        refine (HQ.out _).mono ?_
        rintro e w2 ⟨rfl, hb2⟩
        rw [HN.out, strOf_nil]
        go_wp2_with fail
        go_ret2
        exact ⟨by rw [HBE.out, HRM.out, HBR.out]; rfl, hb1.trans (hb2.mono hb1.size)⟩
      · have hroom : roomErr a b = 0 := by unfold roomErr; rw [if_neg (fun h => h HH.out), if_neg hn]
        have hbr : betweenRes a b who = quarter a b ++ [UInt8.ofNat (97 + who.toNat)] := by unfold betweenRes; rw [if_pos (by rw [HBE.out, hroom])]
        have hE : (strOf (quarter a b)).toList.isEmpty = false := isEmpty_not (by rw [strOf_size]; exact fun h => hn (List.eq_nil_of_length_eq_zero h))
        have hsz := strOf_size (quarter a b)
        have hsz2 : (strOf (quarter a b)).size ≤ 11 := by omega
        have hcv : ∀ W : World, (convert 122 9 (.slice (some ⟨W.heap.size, 0, none⟩) 1 1)).run Tryz.prog (W.alloc (.cells #[.int .u8 (97 + who)] 5)) = .ok (.string (strOf [UInt8.ofNat (97 + who.toNat)])) (W.alloc (.cells #[.int .u8 (97 + who)] 5)) := fun W => by
          refine run_convert_bytes_back (P := Tryz.prog) _ 122 9 5 ⟨W.heap.size, 0, none⟩ 1 [UInt8.ofNat (97 + who.toNat)] Tryz.underlying122 Tryz.underlying5 Tryz.underlying9 (fun j hj => ?_)
          obtain rfl : j = 0 := by simpa using hj
          have e : (⟨W.heap.size, 0, none⟩ : Addr).add 0 = ⟨W.heap.size, 0, none⟩ := rfl
          rw [e, (Blk.new W 5 #[.int .u8 (97 + who)]).cell 0]
          simp
          omega
        obtain ⟨q, hq'⟩ : ∃ q, q = strOf (quarter a b) := ⟨_, rfl⟩
        obtain ⟨c, hc⟩ : ∃ c, c = strOf [UInt8.ofNat (97 + who.toNat)] := ⟨_, rfl⟩
        have hcs : c.size = 1 := by rw [hc, strOf_size]; rfl
        have hcs1 : c.size ≤ 1 := by omega
        rw [← hq'] at hE hsz2
        rw [← hc] at hcv
        have HRM := Lib.hid hroom
        have HBR := Lib.hid hbr
        have HQE := Lib.hid hq'
        have HC := Lib.hid hc
        clear hroom hn hq hsz hq' hc hcs hbr
        go_enter Tryz.func153, Tryz.ntmps153
        go_wp2_with fail
        refine HAU.out.mono ?_
        rintro e w1 ⟨rfl, rfl⟩
        rw [HA.out]
        go_wp2_with fail
        refine (HR.out _).mono ?_
        rintro e w1 ⟨rfl, hb1⟩
        rw [HH.out, show errV 0 = .nilIface from rfl]
        go_wp2_with fail
        refine (HQ.out _).mono ?_
        rintro e w2 ⟨rfl, hb2⟩
        rw [← HQE.out]
        go_wp2_with fail
        go_ret2
        have hb12 := hb1.trans (hb2.mono hb1.size)
        exact ⟨by rw [HBE.out, HRM.out, HBR.out, ← strOf_append, ← HQE.out, ← HC.out]; rfl, hb12.alloc hb12.size _⟩
    · have hroom : roomErr a b = readyErr a b := by unfold roomErr; rw [if_pos h]
      have hbr : betweenRes a b who = [] := by unfold betweenRes; rw [if_neg (by rw [HBE.out, hroom]; exact h)]
      have HV := Lib.hid (errV_ne h)
      have HRM := Lib.hid hroom
      have HBR := Lib.hid hbr
      have HH := Lib.hid h
      clear h hroom hbr
      go_enter Tryz.func153, Tryz.ntmps153
      go_wp2_with fail
      refine HAU.out.mono ?_
      rintro e w1 ⟨rfl, rfl⟩
      rw [HA.out]
      go_wp2_with fail
      refine (HR.out _).mono ?_
      rintro e w1 ⟨rfl, hb1⟩
      rw [HV.out]
      go_wp2_with fail
      go_ret2
      exact ⟨by rw [HBE.out, HRM.out, HBR.out, HV.out]; rfl, hb1⟩
end Go.Proofs.YthfbjfocmnikaaaGreatDoor

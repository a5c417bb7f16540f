/- Package place, walked: between. Conditions: texts no longer than an int may count. -/
import Derived.Test.YtgmdnmdniidngaaDoorPlace3
namespace Go.Proofs.YtgmdnmdniidngaaDoor
open Go.RowKit
set_option linter.unusedVariables false

def roomErr (a b : ByteArray) : Int := if readyErr a b ≠ 0 then readyErr a b else if quarter a b = [] then 8 else 0
def betweenErr (a b : ByteArray) (who : Int) : Int := if who < 1 ∨ 8 < who then 1 else roomErr a b
def betweenRes (a b : ByteArray) (who : Int) : List UInt8 := if betweenErr a b who = 0 then quarter a b ++ [UInt8.ofNat (97 + who.toNat)] else []

theorem letters_empty {s : ByteArray} (h : s.size = 0) : Letters s := fun i hi => by omega
theorem ready_ok {a b : ByteArray} (h : readyErr a b = 0) : (a.size ≤ 12 ∧ Letters a) ∧ b.size ≤ 12 ∧ Letters b := by
  unfold readyErr at h
  split at h
  · rename_i h1; exact absurd h h1.2
  · rename_i h1
    split at h
    · rename_i h2; exact absurd h h2.2
    · rename_i h2
      constructor
      · by_cases hz : a.size = 0
        · exact ⟨by omega, letters_empty hz⟩
        · have hp : placeErr a = 0 := Decidable.byContradiction fun hp => h1 ⟨hz, hp⟩
          exact ⟨(okPlace hp).1, (okPlace hp).2.1⟩
      · by_cases hz : b.size = 0
        · exact ⟨by omega, letters_empty hz⟩
        · have hp : placeErr b = 0 := Decidable.byContradiction fun hp => h2 ⟨hz, hp⟩
          exact ⟨(okPlace hp).1, (okPlace hp).2.1⟩

theorem quarter_len {a b : ByteArray} : ∀ (f n : Nat), n + f ≤ 12 → (quarterFrom a b n f).length ≤ 11 := by
  intro f
  induction f with
  | zero => intro n _; simp [quarterFrom]
  | succ f ih =>
    intro n hn
    rw [quarterFrom]
    split
    · exact ih (n + 1) (by omega)
    · rw [lets_len]; omega
theorem quarter_le (a b : ByteArray) : (quarter a b).length ≤ 11 := quarter_len 11 1 (by omega)

def BetweenPost (w : World) (a b : ByteArray) (who : Int) (e : Ending) (w' : World) : Prop :=
  e = .returned (.tuple #[.string (strOf (betweenRes a b who)), errV (betweenErr a b who)]) ∧ Below w.heap.size w w'

set_option maxRecDepth 100000 in
set_option maxHeartbeats 1000000 in
theorem between_any (w : World) (a b : ByteArray) (who : Int) (ha : a.size ≤ 9223372036854775807) (hb : b.size ≤ 9223372036854775807) :
    Calls Tryd.prog 23 #[.string a, .string b, .int .i64 who] w (BetweenPost w a b who) := by
  have HR := Lib.hid (fun w => ready_any w a b ha hb)
  have HAU := Lib.hid (author_any w who)
  clear ha hb
  by_cases hw : who < 1 ∨ 8 < who
  · have hbe : betweenErr a b who = 1 := by unfold betweenErr; rw [if_pos hw]
    have hbr : betweenRes a b who = [] := by unfold betweenRes; rw [if_neg (by rw [hbe]; decide)]
    have hau : (decide (1 ≤ who) && decide (who ≤ 8)) = false := by simp; omega
    have HBE := Lib.hid hbe
    have HBR := Lib.hid hbr
    have HA := Lib.hid hau
    clear hbe hbr hw hau
    go_enter Tryd.func23, Tryd.ntmps23
    go_wp2_with fail
    refine HAU.out.mono ?_
    rintro e w1 ⟨rfl, rfl⟩
    rw [HA.out]
    go_wp2_with fail
    go_ret2
    exact ⟨by rw [HBE.out, HBR.out]; rfl, Below.refl _ _⟩
  · have hau : (decide (1 ≤ who) && decide (who ≤ 8)) = true := by simp; omega
    have hbe : betweenErr a b who = roomErr a b := by unfold betweenErr; rw [if_neg hw]
    have hw0 : 1 ≤ who := by omega
    have hw1 : who ≤ 8 := by omega
    have HBE := Lib.hid hbe
    have HA := Lib.hid hau
    clear hbe hw hau
    by_cases h : readyErr a b = 0
    · obtain ⟨⟨k1, k2⟩, k3, k4⟩ := ready_ok h
      have HQ := Lib.hid (fun w => quarter_any w a b k1 k3 k2 k4)
      have hq := quarter_le a b
      have HH := Lib.hid h
      clear h k1 k2 k3 k4
      by_cases hn : quarter a b = []
      · have hroom : roomErr a b = 8 := by unfold roomErr; rw [if_neg (fun h => h HH.out), if_pos hn]
        have hbr : betweenRes a b who = [] := by unfold betweenRes; rw [if_neg (by rw [HBE.out, hroom]; decide)]
        have HRM := Lib.hid hroom
        have HBR := Lib.hid hbr
        have HN := Lib.hid hn
        clear hroom hn hq hbr
        go_enter Tryd.func23, Tryd.ntmps23
        go_wp2_with fail
        refine HAU.out.mono ?_
        rintro e w1 ⟨rfl, rfl⟩
        rw [HA.out]
        go_wp2_with fail
        refine (HR.out _).mono ?_
        rintro e w1 ⟨rfl, hb1⟩
        rw [HH.out, show errV 0 = .nilIface from rfl]
        go_wp2_with fail
        refine (HQ.out _).mono ?_
        rintro e w2 ⟨rfl, hb2⟩
        rw [HN.out, strOf_nil]
        go_wp2_with fail
        go_ret2
        exact ⟨by rw [HBE.out, HRM.out, HBR.out]; rfl, hb1.trans (hb2.mono hb1.size)⟩
      · have hroom : roomErr a b = 0 := by unfold roomErr; rw [if_neg (fun h => h HH.out), if_neg hn]
        have hbr : betweenRes a b who = quarter a b ++ [UInt8.ofNat (97 + who.toNat)] := by unfold betweenRes; rw [if_pos (by rw [HBE.out, hroom])]
        have hE : (strOf (quarter a b)).toList.isEmpty = false := isEmpty_not (by rw [strOf_size]; exact fun h => hn (List.eq_nil_of_length_eq_zero h))
        have hsz := strOf_size (quarter a b)
        have hsz2 : (strOf (quarter a b)).size ≤ 11 := by omega
        have hcv : ∀ W : World, (convert 80 9 (.slice (some ⟨W.heap.size, 0, none⟩) 1 1)).run Tryd.prog (W.alloc (.cells #[.int .u8 (97 + who)] 5)) = .ok (.string (strOf [UInt8.ofNat (97 + who.toNat)])) (W.alloc (.cells #[.int .u8 (97 + who)] 5)) := fun W => by
          refine run_convert_bytes_back (P := Tryd.prog) _ 80 9 5 ⟨W.heap.size, 0, none⟩ 1 [UInt8.ofNat (97 + who.toNat)] Tryd.underlying80 Tryd.underlying5 Tryd.underlying9 (fun j hj => ?_)
          obtain rfl : j = 0 := by simpa using hj
          have e : (⟨W.heap.size, 0, none⟩ : Addr).add 0 = ⟨W.heap.size, 0, none⟩ := rfl
          rw [e, (Blk.new W 5 #[.int .u8 (97 + who)]).cell 0]
          simp
          omega
        obtain ⟨q, hq'⟩ : ∃ q, q = strOf (quarter a b) := ⟨_, rfl⟩
        obtain ⟨c, hc⟩ : ∃ c, c = strOf [UInt8.ofNat (97 + who.toNat)] := ⟨_, rfl⟩
        have hcs : c.size = 1 := by rw [hc, strOf_size]; rfl
        have hcs1 : c.size ≤ 1 := by omega
        rw [← hq'] at hE hsz2
        rw [← hc] at hcv
        have HRM := Lib.hid hroom
        have HBR := Lib.hid hbr
        have HQE := Lib.hid hq'
        have HC := Lib.hid hc
        clear hroom hn hq hsz hq' hc hcs hbr
        go_enter Tryd.func23, Tryd.ntmps23
        go_wp2_with fail
        refine HAU.out.mono ?_
        rintro e w1 ⟨rfl, rfl⟩
        rw [HA.out]
        go_wp2_with fail
        refine (HR.out _).mono ?_
        rintro e w1 ⟨rfl, hb1⟩
        rw [HH.out, show errV 0 = .nilIface from rfl]
        go_wp2_with fail
        refine (HQ.out _).mono ?_
        rintro e w2 ⟨rfl, hb2⟩
        rw [← HQE.out]
        go_wp2_with fail
        go_ret2
        have hb12 := hb1.trans (hb2.mono hb1.size)
        exact ⟨by rw [HBE.out, HRM.out, HBR.out, ← strOf_append, ← HQE.out, ← HC.out]; rfl, hb12.alloc hb12.size _⟩
    · have hroom : roomErr a b = readyErr a b := by unfold roomErr; rw [if_pos h]
      have hbr : betweenRes a b who = [] := by unfold betweenRes; rw [if_neg (by rw [HBE.out, hroom]; exact h)]
      have HV := Lib.hid (errV_ne h)
      have HRM := Lib.hid hroom
      have HBR := Lib.hid hbr
      have HH := Lib.hid h
      clear h hroom hbr
      go_enter Tryd.func23, Tryd.ntmps23
      go_wp2_with fail
      refine HAU.out.mono ?_
      rintro e w1 ⟨rfl, rfl⟩
      rw [HA.out]
      go_wp2_with fail
      refine (HR.out _).mono ?_
      rintro e w1 ⟨rfl, hb1⟩
      rw [HV.out]
      go_wp2_with fail
      go_ret2
      exact ⟨by rw [HBE.out, HRM.out, HBR.out, HV.out]; rfl, hb1⟩
end Go.Proofs.YtgmdnmdniidngaaDoor

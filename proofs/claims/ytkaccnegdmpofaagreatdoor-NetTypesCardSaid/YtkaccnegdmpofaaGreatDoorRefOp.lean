/- leafref1.Op, walked: it tells the same as op.Check. Conditions: none of our own. -/
import Derived.Test.YtkaccnegdmpofaaGreatDoorOpenOp
import Derived.Test.YtkaccnegdmpofaaGreatDoorRefDot
namespace Go.Proofs.YtkaccnegdmpofaaGreatDoor
open Go.RowKit
set_option linter.unusedVariables false
set_option maxRecDepth 100000 in
set_option maxHeartbeats 4000000 in
theorem rop_any (w : World) (A : Option Addr) (c : Nat) (o : LOp) (h : Reads w w.heap.size 2 A o.seen.length (dcells o.seen)) (hp : o.place.size ≤ 9223372036854775807) :
    Calls Tryz.prog 48 #[o.val A c] w (CheckPost w (.int .i64 (opErr o))) := by
  obtain ⟨⟨who, n⟩, what, place, letter, seen⟩ := o
  have HB := Lib.hid (Blk.new w 48 (LOp.cells ⟨⟨who, n⟩, what, place, letter, seen⟩ A c))
  have HBel : Hid (Below w.heap.size w (w.alloc (.cells (LOp.cells ⟨⟨who, n⟩, what, place, letter, seen⟩ A c) 48))) := (Below.refl _ _).alloc (Nat.le_refl _) _
  have HD := Lib.hid (fun w => rdot_any w ⟨who, n⟩)
  have HP := Lib.hid (fun w => rplace_any w place hp)
  have HL := Lib.hid (fun w => rletter_any w letter)
  have HS := Lib.hid h
  clear h
  unfold LOp.val LOp.cells at *
  have c0 : (w.alloc (.cells #[.int .i64 who, .int .i64 n, .int .i64 what, .string place, .int .i64 letter, .slice A seen.length c] 48)).cell? ⟨w.heap.size, 0, none⟩ = some (.int .i64 who) := by rw [HB.out.cell]; rfl
  have c1 : (w.alloc (.cells #[.int .i64 who, .int .i64 n, .int .i64 what, .string place, .int .i64 letter, .slice A seen.length c] 48)).cell? ⟨w.heap.size, 1, none⟩ = some (.int .i64 n) := by rw [HB.out.cell]; rfl
  go_enter Tryz.func48, Tryz.ntmps48
  go_wp2_with fail
  refine (HD.out _).mono ?_
  rintro e w1 ⟨rfl, hb1⟩
  have k2 : w1.cell? ⟨w.heap.size, 2, none⟩ = some (.int .i64 what) := by rw [(HB.out.below hb1 (by simp)).cell]; rfl
  have k3 : w1.cell? ⟨w.heap.size, 3, none⟩ = some (.string place) := by rw [(HB.out.below hb1 (by simp)).cell]; rfl
  have k4 : w1.cell? ⟨w.heap.size, 4, none⟩ = some (.int .i64 letter) := by rw [(HB.out.below hb1 (by simp)).cell]; rfl
  have k5 : w1.cell? ⟨w.heap.size, 5, none⟩ = some (.slice A seen.length c) := by rw [(HB.out.below hb1 (by simp)).cell]; rfl
  have hb01 : Hid (Below w.heap.size w w1) := HBel.out.trans (hb1.mono (by simp))
  clear hb1 c0 c1
  by_cases hd : dotErr ⟨who, n⟩ = 0
  · have HDE := Lib.hid hd
    rw [hd]
    clear hd
    by_cases h1 : what < 1
    · have HZ : Hid (opErr ⟨⟨who, n⟩, what, place, letter, seen⟩ = 1) := by
        show opErr _ = 1
        unfold opErr
        rw [if_neg (fun h => h HDE.out), if_pos (by show ¬ (1 ≤ what ∧ what ≤ 4); omega)]
      go_wp2_with fail
      go_ret
      exact ⟨by rw [HZ.out]; rfl, hb01.out⟩
    · by_cases h2 : 4 < what
      · have h2' : what > 4 := h2
        have HZ : Hid (opErr ⟨⟨who, n⟩, what, place, letter, seen⟩ = 1) := by
          show opErr _ = 1
          unfold opErr
          rw [if_neg (fun h => h HDE.out), if_pos (by show ¬ (1 ≤ what ∧ what ≤ 4); omega)]
        go_wp2_with fail
        go_ret
        exact ⟨by rw [HZ.out]; rfl, hb01.out⟩
      · have HW : Hid (¬ ¬ (1 ≤ what ∧ what ≤ 4)) := by show ¬ ¬ (1 ≤ what ∧ what ≤ 4); omega
        go_wp2_with fail
        refine (HP.out _).mono ?_
        rintro e w2 ⟨rfl, hw⟩
        obtain rfl := hw.symm
        clear hw
        by_cases hpl : placeErr place = 0
        · have HPL := Lib.hid hpl
          rw [hpl]
          clear hpl
          have HRISE : Hid (seen.length ≤ 1048576 → Calls Tryz.prog 99 #[.slice A seen.length c] w1 (CheckPost w1 (.int .i64 (riseErr seen)))) := fun hn => rdots_any w1 A c seen ((HS.out.below hb01.out).more hb01.out.size) hn
          go_wp2_with fail
          refine (HL.out _).mono ?_
          rintro e w3 ⟨rfl, hw⟩
          obtain rfl := hw.symm
          clear hw
          by_cases h3 : what = 1
          · subst h3
            cases hlb : letterB letter with
            | false =>
              have HZ : Hid (opErr ⟨⟨who, n⟩, 1, place, letter, seen⟩ = 1) := by
                show opErr _ = _
                have e1 := HDE.out
                have e2 := HPL.out
                unfold opErr
                simp [e1, e2, hlb]
              go_wp2_with fail
              go_ret
              exact ⟨by rw [HZ.out]; rfl, hb01.out⟩
            | true =>
              by_cases h4 : 0 < seen.length
              · have HZ : Hid (opErr ⟨⟨who, n⟩, 1, place, letter, seen⟩ = 3) := by
                  show opErr _ = _
                  have e1 := HDE.out
                  have e2 := HPL.out
                  unfold opErr
                  simp [e1, e2, hlb, h4]
                have hd4 : decide (0 < seen.length) = true := by simpa using h4
                go_wp2_with fail
                go_ret
                exact ⟨by rw [HZ.out]; rfl, hb01.out⟩
              · have HZ : Hid (opErr ⟨⟨who, n⟩, 1, place, letter, seen⟩ = riseErr seen) := by
                  show opErr _ = _
                  have e1 := HDE.out
                  have e2 := HPL.out
                  unfold opErr
                  rw [if_neg (by simp [e1]), if_neg (by simp), if_neg (by simp [e2]), if_neg (by simp [hlb]), if_neg (by simp), if_neg (by intro h; exact h4 h.2), if_neg (by show ¬ 40 < seen.length; omega)]
                have hd4 : decide (0 < seen.length) = false := by simpa using h4
                have hd5 : decide (40 < seen.length) = false := by simp; omega
                go_wp2_with fail
                refine (HRISE.out (by omega)).mono ?_
                rintro e w4 ⟨rfl, hb3⟩
                rw [← HZ.out]
                go_wp2_with fail
                go_ret
                exact ⟨rfl, hb01.out.trans (hb3.mono (hb01.out.size))⟩
          · have hw1 : (what == 1) = false := by simpa using h3
            have hw2 : (what != 1) = true := by simpa using h3
            by_cases h5 : letter = 0
            · subst h5
              by_cases h6 : what = 4
              · subst h6
                by_cases h7 : 40 < seen.length
                · have HZ : Hid (opErr ⟨⟨who, n⟩, 4, place, 0, seen⟩ = 4) := by
                    show opErr _ = _
                    have e1 := HDE.out
                    have e2 := HPL.out
                    unfold opErr
                    simp [e1, e2, h7]
                  have hd5 : decide (40 < seen.length) = true := by simpa using h7
                  go_wp2_with fail
                  go_ret
                  exact ⟨by rw [HZ.out]; rfl, hb01.out⟩
                · have HZ : Hid (opErr ⟨⟨who, n⟩, 4, place, 0, seen⟩ = riseErr seen) := by
                    show opErr _ = _
                    have e1 := HDE.out
                    have e2 := HPL.out
                    unfold opErr
                    rw [if_neg (by simp [e1]), if_neg (by simp), if_neg (by simp [e2]), if_neg (by simp), if_neg (by simp), if_neg (by simp), if_neg h7]
                  have hd5 : decide (40 < seen.length) = false := by simp; omega
                  go_wp2_with fail
                  refine (HRISE.out (by omega)).mono ?_
                  rintro e w4 ⟨rfl, hb3⟩
                  rw [← HZ.out]
                  go_wp2_with fail
                  go_ret
                  exact ⟨rfl, hb01.out.trans (hb3.mono (hb01.out.size))⟩
              · have hw4 : (what != 4) = true := by simpa using h6
                by_cases h4 : 0 < seen.length
                · have HZ : Hid (opErr ⟨⟨who, n⟩, what, place, 0, seen⟩ = 3) := by
                    show opErr _ = _
                    unfold opErr
                    rw [if_neg (fun h => h HDE.out), if_neg HW.out, if_neg (fun h => h HPL.out), if_neg (by intro h; exact h3 h.1), if_neg (by intro h; exact h.2 rfl), if_pos ⟨h6, h4⟩]
                  have hd4 : decide (0 < seen.length) = true := by simpa using h4
                  go_wp2_with fail
                  go_ret
                  exact ⟨by rw [HZ.out]; rfl, hb01.out⟩
                · have HZ : Hid (opErr ⟨⟨who, n⟩, what, place, 0, seen⟩ = riseErr seen) := by
                    show opErr _ = _
                    unfold opErr
                    rw [if_neg (fun h => h HDE.out), if_neg HW.out, if_neg (fun h => h HPL.out), if_neg (by intro h; exact h3 h.1), if_neg (by intro h; exact h.2 rfl), if_neg (by intro h; exact h4 h.2), if_neg (by show ¬ 40 < seen.length; omega)]
                  have hd4 : decide (0 < seen.length) = false := by simpa using h4
                  have hd5 : decide (40 < seen.length) = false := by simp; omega
                  go_wp2_with fail
                  refine (HRISE.out (by omega)).mono ?_
                  rintro e w4 ⟨rfl, hb3⟩
                  rw [← HZ.out]
                  go_wp2_with fail
                  go_ret
                  exact ⟨rfl, hb01.out.trans (hb3.mono (hb01.out.size))⟩
            · have hl0 : (letter != 0) = true := by simpa using h5
              have HZ : Hid (opErr ⟨⟨who, n⟩, what, place, letter, seen⟩ = 3) := by
                show opErr _ = _
                unfold opErr
                rw [if_neg (fun h => h HDE.out), if_neg HW.out, if_neg (fun h => h HPL.out), if_neg (by intro h; exact h3 h.1), if_pos ⟨h3, h5⟩]
              go_wp2_with fail
              go_ret
              exact ⟨by rw [HZ.out]; rfl, hb01.out⟩
        · have HZ : Hid (opErr ⟨⟨who, n⟩, what, place, letter, seen⟩ = placeErr place) := by
            show opErr _ = _
            unfold opErr
            rw [if_neg (fun h => h HDE.out), if_neg HW.out, if_pos hpl]
          have q1 : (placeErr place == 0) = false := by simpa using hpl
          have q2 : (placeErr place != 0) = true := by simpa using hpl
          generalize placeErr place = k at *
          go_wp2_with fail
          go_ret
          exact ⟨by rw [HZ.out]; rfl, hb01.out⟩
  · have HZ : Hid (opErr ⟨⟨who, n⟩, what, place, letter, seen⟩ = dotErr ⟨who, n⟩) := by
      show opErr _ = _
      unfold opErr
      rw [if_pos hd]
    have q1 : (dotErr ⟨who, n⟩ == 0) = false := by simpa using hd
    have q2 : (dotErr ⟨who, n⟩ != 0) = true := by simpa using hd
    generalize dotErr ⟨who, n⟩ = k at *
    go_wp2_with fail
    go_ret
    exact ⟨by rw [HZ.out]; rfl, hb01.out⟩
end Go.Proofs.YtkaccnegdmpofaaGreatDoor

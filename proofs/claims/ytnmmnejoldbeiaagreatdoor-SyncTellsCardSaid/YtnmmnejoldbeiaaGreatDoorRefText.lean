/- 2 texts in one: each says ahead of itself what is proved, and its conditions. -/
import Derived.Test.YtnmmnejoldbeiaaGreatDoorBookFind
import Derived.Test.YtnmmnejoldbeiaaGreatDoorOpenOp
import Derived.Test.YtnmmnejoldbeiaaGreatDoorRefDot
/- leafref1.Op, walked: it tells the same as op.Check. Conditions: none of our own. -/
namespace Go.Proofs.YtnmmnejoldbeiaaGreatDoor
open Go.RowKit
set_option linter.unusedVariables false
set_option maxRecDepth 100000 in
set_option maxHeartbeats 4000000 in
theorem rop_any (w : World) (A : Option Addr) (c : Nat) (o : LOp) (h : Reads w w.heap.size 2 A o.seen.length (dcells o.seen)) (hp : o.place.size ≤ 9223372036854775807) :
    Calls Tryz.prog 28 #[o.val A c] w (CheckPost w (.int .i64 (opErr o))) := by
  obtain ⟨⟨who, n⟩, what, place, letter, seen⟩ := o
  have HB := Lib.hid (Blk.new w 30 (LOp.cells ⟨⟨who, n⟩, what, place, letter, seen⟩ A c))
  have HBel : Hid (Below w.heap.size w (w.alloc (.cells (LOp.cells ⟨⟨who, n⟩, what, place, letter, seen⟩ A c) 30))) := (Below.refl _ _).alloc (Nat.le_refl _) _
  have HD := Lib.hid (fun w => rdot_any w ⟨who, n⟩)
  have HP := Lib.hid (fun w => rplace_any w place hp)
  have HL := Lib.hid (fun w => rletter_any w letter)
  have HS := Lib.hid h
  clear h
  unfold LOp.val LOp.cells at *
  have c0 : (w.alloc (.cells #[.int .i64 who, .int .i64 n, .int .i64 what, .string place, .int .i64 letter, .slice A seen.length c] 30)).cell? ⟨w.heap.size, 0, none⟩ = some (.int .i64 who) := by rw [HB.out.cell]; rfl
  have c1 : (w.alloc (.cells #[.int .i64 who, .int .i64 n, .int .i64 what, .string place, .int .i64 letter, .slice A seen.length c] 30)).cell? ⟨w.heap.size, 1, none⟩ = some (.int .i64 n) := by rw [HB.out.cell]; rfl
  go_enter Tryz.func28, Tryz.ntmps28
  go_wp2_with fail
  refine (HD.out _).mono ?_
  rintro e w1 ⟨rfl, hb1⟩
  have k2 : w1.cell? ⟨w.heap.size, 2, none⟩ = some (.int .i64 what) := by rw [(HB.out.below hb1 (by simp)).cell]; rfl
  have k3 : w1.cell? ⟨w.heap.size, 3, none⟩ = some (.string place) := by rw [(HB.out.below hb1 (by simp)).cell]; rfl
  have k4 : w1.cell? ⟨w.heap.size, 4, none⟩ = some (.int .i64 letter) := by rw [(HB.out.below hb1 (by simp)).cell]; rfl
  have k5 : w1.cell? ⟨w.heap.size, 5, none⟩ = some (.slice A seen.length c) := by rw [(HB.out.below hb1 (by simp)).cell]; rfl
  have hb01 : Hid (Below w.heap.size w w1) := HBel.out.trans (hb1.mono (by simp))
  clear hb1 c0 c1
  by_cases hd : dotErr ⟨who, n⟩ = 0
  · have HDE := Lib.hid hd
    rw [hd]
    clear hd
    by_cases h1 : what < 1
    · have HZ : Hid (opErr ⟨⟨who, n⟩, what, place, letter, seen⟩ = 1) := by
        show opErr _ = 1
        unfold opErr
        rw [if_neg (fun h => h HDE.out), if_pos (by show ¬ (1 ≤ what ∧ what ≤ 4); omega)]
      go_wp2_with fail
      go_ret
      exact ⟨by rw [HZ.out]; rfl, hb01.out⟩
    · by_cases h2 : 4 < what
      · have h2' : what > 4 := h2
        have HZ : Hid (opErr ⟨⟨who, n⟩, what, place, letter, seen⟩ = 1) := by
          show opErr _ = 1
          unfold opErr
          rw [if_neg (fun h => h HDE.out), if_pos (by show ¬ (1 ≤ what ∧ what ≤ 4); omega)]
        go_wp2_with fail
        go_ret
        exact ⟨by rw [HZ.out]; rfl, hb01.out⟩
      · have HW : Hid (¬ ¬ (1 ≤ what ∧ what ≤ 4)) := by show ¬ ¬ (1 ≤ what ∧ what ≤ 4); omega
        go_wp2_with fail
        refine (HP.out _).mono ?_
        rintro e w2 ⟨rfl, hw⟩
        obtain rfl := hw.symm
        clear hw
        by_cases hpl : placeErr place = 0
        · have HPL := Lib.hid hpl
          rw [hpl]
          clear hpl
          have HRISE : Hid (seen.length ≤ 1048576 → Calls Tryz.prog 74 #[.slice A seen.length c] w1 (CheckPost w1 (.int .i64 (riseErr seen)))) := fun hn => rdots_any w1 A c seen ((HS.out.below hb01.out).more hb01.out.size) hn
          go_wp2_with fail
          refine (HL.out _).mono ?_
          rintro e w3 ⟨rfl, hw⟩
          obtain rfl := hw.symm
          clear hw
          by_cases h3 : what = 1
          · subst h3
            cases hlb : letterB letter with
            | false =>
              have HZ : Hid (opErr ⟨⟨who, n⟩, 1, place, letter, seen⟩ = 1) := by
                show opErr _ = _
                have e1 := HDE.out
                have e2 := HPL.out
                unfold opErr
                simp [e1, e2, hlb]
              go_wp2_with fail
              go_ret
              exact ⟨by rw [HZ.out]; rfl, hb01.out⟩
            | true =>
              by_cases h4 : 0 < seen.length
              · have HZ : Hid (opErr ⟨⟨who, n⟩, 1, place, letter, seen⟩ = 3) := by
                  show opErr _ = _
                  have e1 := HDE.out
                  have e2 := HPL.out
                  unfold opErr
                  simp [e1, e2, hlb, h4]
                have hd4 : decide (0 < seen.length) = true := by simpa using h4
                go_wp2_with fail
                go_ret
                exact ⟨by rw [HZ.out]; rfl, hb01.out⟩
              · have HZ : Hid (opErr ⟨⟨who, n⟩, 1, place, letter, seen⟩ = riseErr seen) := by
                  show opErr _ = _
                  have e1 := HDE.out
                  have e2 := HPL.out
                  unfold opErr
                  rw [if_neg (by simp [e1]), if_neg (by simp), if_neg (by simp [e2]), if_neg (by simp [hlb]), if_neg (by simp), if_neg (by intro h; exact h4 h.2), if_neg (by show ¬ 40 < seen.length; omega)]
                have hd4 : decide (0 < seen.length) = false := by simpa using h4
                have hd5 : decide (40 < seen.length) = false := by simp; omega
                go_wp2_with fail
                refine (HRISE.out (by omega)).mono ?_
                rintro e w4 ⟨rfl, hb3⟩
                rw [← HZ.out]
                go_wp2_with fail
                go_ret
                exact ⟨rfl, hb01.out.trans (hb3.mono (hb01.out.size))⟩
          · have hw1 : (what == 1) = false := by simpa using h3
            have hw2 : (what != 1) = true := by simpa using h3
            by_cases h5 : letter = 0
            · subst h5
              by_cases h6 : what = 4
              · subst h6
                by_cases h7 : 40 < seen.length
                · have HZ : Hid (opErr ⟨⟨who, n⟩, 4, place, 0, seen⟩ = 4) := by
                    show opErr _ = _
                    have e1 := HDE.out
                    have e2 := HPL.out
                    unfold opErr
                    simp [e1, e2, h7]
                  have hd5 : decide (40 < seen.length) = true := by simpa using h7
                  go_wp2_with fail
                  go_ret
                  exact ⟨by rw [HZ.out]; rfl, hb01.out⟩
                · have HZ : Hid (opErr ⟨⟨who, n⟩, 4, place, 0, seen⟩ = riseErr seen) := by
                    show opErr _ = _
                    have e1 := HDE.out
                    have e2 := HPL.out
                    unfold opErr
                    rw [if_neg (by simp [e1]), if_neg (by simp), if_neg (by simp [e2]), if_neg (by simp), if_neg (by simp), if_neg (by simp), if_neg h7]
                  have hd5 : decide (40 < seen.length) = false := by simp; omega
                  go_wp2_with fail
                  refine (HRISE.out (by omega)).mono ?_
                  rintro e w4 ⟨rfl, hb3⟩
                  rw [← HZ.out]
                  go_wp2_with fail
                  go_ret
                  exact ⟨rfl, hb01.out.trans (hb3.mono (hb01.out.size))⟩
              · have hw4 : (what != 4) = true := by simpa using h6
                by_cases h4 : 0 < seen.length
                · have HZ : Hid (opErr ⟨⟨who, n⟩, what, place, 0, seen⟩ = 3) := by
                    show opErr _ = _
                    unfold opErr
                    rw [if_neg (fun h => h HDE.out), if_neg HW.out, if_neg (fun h => h HPL.out), if_neg (by intro h; exact h3 h.1), if_neg (by intro h; exact h.2 rfl), if_pos ⟨h6, h4⟩]
                  have hd4 : decide (0 < seen.length) = true := by simpa using h4
                  go_wp2_with fail
                  go_ret
                  exact ⟨by rw [HZ.out]; rfl, hb01.out⟩
                · have HZ : Hid (opErr ⟨⟨who, n⟩, what, place, 0, seen⟩ = riseErr seen) := by
                    show opErr _ = _
                    unfold opErr
                    rw [if_neg (fun h => h HDE.out), if_neg HW.out, if_neg (fun h => h HPL.out), if_neg (by intro h; exact h3 h.1), if_neg (by intro h; exact h.2 rfl), if_neg (by intro h; exact h4 h.2), if_neg (by show ¬ 40 < seen.length; omega)]
                  have hd4 : decide (0 < seen.length) = false := by simpa using h4
                  have hd5 : decide (40 < seen.length) = false := by simp; omega
                  go_wp2_with fail
                  refine (HRISE.out (by omega)).mono ?_
                  rintro e w4 ⟨rfl, hb3⟩
                  rw [← HZ.out]
                  go_wp2_with fail
                  go_ret
                  exact ⟨rfl, hb01.out.trans (hb3.mono (hb01.out.size))⟩
            · have hl0 : (letter != 0) = true := by simpa using h5
              have HZ : Hid (opErr ⟨⟨who, n⟩, what, place, letter, seen⟩ = 3) := by
                show opErr _ = _
                unfold opErr
                rw [if_neg (fun h => h HDE.out), if_neg HW.out, if_neg (fun h => h HPL.out), if_neg (by intro h; exact h3 h.1), if_pos ⟨h3, h5⟩]
              go_wp2_with fail
              go_ret
              exact ⟨by rw [HZ.out]; rfl, hb01.out⟩
        · have HZ : Hid (opErr ⟨⟨who, n⟩, what, place, letter, seen⟩ = placeErr place) := by
            show opErr _ = _
            unfold opErr
            rw [if_neg (fun h => h HDE.out), if_neg HW.out, if_pos hpl]
          have q1 : (placeErr place == 0) = false := by simpa using hpl
          have q2 : (placeErr place != 0) = true := by simpa using hpl
          generalize placeErr place = k at *
          go_wp2_with fail
          go_ret
          exact ⟨by rw [HZ.out]; rfl, hb01.out⟩
  · have HZ : Hid (opErr ⟨⟨who, n⟩, what, place, letter, seen⟩ = dotErr ⟨who, n⟩) := by
      show opErr _ = _
      unfold opErr
      rw [if_pos hd]
    have q1 : (dotErr ⟨who, n⟩ == 0) = false := by simpa using hd
    have q2 : (dotErr ⟨who, n⟩ != 0) = true := by simpa using hd
    generalize dotErr ⟨who, n⟩ = k at *
    go_wp2_with fail
    go_ret
    exact ⟨by rw [HZ.out]; rfl, hb01.out⟩
end Go.Proofs.YtnmmnejoldbeiaaGreatDoor
/- The document's Text, Nth, Ahead, walked. Conditions: a book that is right, or letters that are bytes. -/
namespace Go.Proofs.YtnmmnejoldbeiaaGreatDoor
open Go.RowKit
set_option linter.unusedVariables false
/-- The place of the o-th leaf that is seen; -1: none. -/
def RNthLoop (w : World) (l : List LLeaf) (off : Int) (n i : Value) (wr : World) : Prop :=
  ∃ (k : Nat) (o : Int), k ≤ l.length ∧ i = .int .i64 k ∧ n = .int .i64 o ∧ 0 ≤ o ∧ o ≤ off ∧ o ≤ k ∧ Hid (Below w.heap.size w wr) ∧ Hid (nthFrom 0 l off = nthFrom k (l.drop k) (off - o))
/-- How many are ahead, by going along. -/
theorem ahead_step {l : List LLeaf} {p : ByteArray} (hr : Rising l) {k : Nat} (h1 : ∀ j (hj : j < l.length), j < k → Op.bytesLess l[j].place.toList p.toList = true) (hk : k ≤ l.length)
    (h2 : ∀ (hk : k < l.length), Op.bytesLess l[k].place.toList p.toList = false) : ahead l p = k := by
  refine ahead_of hk h1 (fun j hj hkj => ?_)
  have hkl : k < l.length := by omega
  rcases Nat.eq_or_lt_of_le hkj with h | h
  · subst h; exact h2 hkl
  · cases hh : Op.bytesLess l[j].place.toList p.toList
    · rfl
    · have := less_trans _ _ _ (rising_lt hr k j hkl hj h) hh
      rw [h2 hkl] at this; cases this
set_option maxRecDepth 100000 in
set_option maxHeartbeats 2000000 in
theorem rahead_any (w : World) (A : Option Addr) (c : Nat) (l : List LLeaf) (p : ByteArray) (h : Reads w w.heap.size 3 A l.length (lcells l)) (hn : l.length ≤ 1000000) (hr : Rising l) :
    Calls Tryz.prog 106 #[.slice A l.length c, .string p] w fun e w' => e = .returned (.int .i64 (ahead l p : Int)) ∧ w' = w := by
  have HR := Lib.hid h
  have HRi := Lib.hid hr
  clear h hr
  go_enter Tryz.func106, Tryz.ntmps106
  go_wp2_with fail
  go_loop [5] (fun i => ∃ k : Nat, k ≤ l.length ∧ i = .int .i64 k ∧ Hid (∀ j (hj : j < l.length), j < k → Op.bytesLess l[j].place.toList p.toList = true)) (fun i => l.length - (intOf i).toNat)
  case atStart => exact ⟨0, by omega, rfl, fun j hj h => by omega⟩
  case round =>
    obtain ⟨k, hk, rfl, H1⟩ := hrel
    by_cases hkn : k < l.length
    · obtain ⟨ad, rfl, hb, c0, c1, c2⟩ := HR.out.leaf hkn
      have hlt : (k : Int) < (l.length : Int) := by omega
      have hk0 : (0 : Int) ≤ (k : Int) := by omega
      cases hless : Op.bytesLess l[k].place.toList p.toList with
      | true =>
        have HS : Hid (∀ j (hj : j < l.length), j < k + 1 → Op.bytesLess l[j].place.toList p.toList = true) := fun j hj hlt => by
          rcases Nat.eq_or_lt_of_le (Nat.le_of_lt_succ hlt) with h | h
          · subst h; exact hless
          · exact H1.out j hj h
        generalize l[k] = x at *
        go_wp2_with fail
        go_round
        case rel => exact ⟨k + 1, by omega, by go_num, HS⟩
        case measure => simp [intOf]; omega
      | false =>
        have HA : Hid (ahead l p = k) := ahead_step HRi.out (fun j hj h => H1.out j hj h) hk (fun _ => hless)
        generalize l[k] = x at *
        go_wp2_with fail
        go_ret
        exact ⟨by rw [HA.out]; rfl, rfl⟩
    · have hd : decide ((k : Int) < (l.length : Int)) = false := by simp; omega
      have HA : Hid (ahead l p = k) := ahead_step HRi.out (fun j hj h => H1.out j hj h) hk (fun h => absurd h hkn)
      go_wp2_with fail
      go_ret
      exact ⟨by rw [HA.out]; rfl, rfl⟩
end Go.Proofs.YtnmmnejoldbeiaaGreatDoor

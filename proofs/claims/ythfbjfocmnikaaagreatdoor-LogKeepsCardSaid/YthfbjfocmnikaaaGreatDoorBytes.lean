/- 2 texts in one: each says ahead of itself what is proved, and its conditions. -/
import Derived.Test.YthfbjfocmnikaaaGreatDoorLetter
import Derived.Test.YthfbjfocmnikaaaGreatDoorMem
/- op.Check, op.two, op.Encode, walked. Conditions: stated with each. -/
namespace Go.Proofs.YthfbjfocmnikaaaGreatDoor
open Go.RowKit
set_option linter.unusedVariables false

structure LOp where
  dot : LDot
  what : Int
  place : ByteArray
  letter : Int
  seen : List LDot
def LOp.val (o : LOp) (A : Option Addr) (c : Nat) : Value := .agg #[.int .i64 o.dot.who, .int .i64 o.dot.n, .int .i64 o.what, .string o.place, .int .i64 o.letter, .slice A o.seen.length c]
def LOp.cells (o : LOp) (A : Option Addr) (c : Nat) : Array Value := #[.int .i64 o.dot.who, .int .i64 o.dot.n, .int .i64 o.what, .string o.place, .int .i64 o.letter, .slice A o.seen.length c]
def opErr (o : LOp) : Int :=
  if dotErr o.dot ≠ 0 then dotErr o.dot else if ¬ (1 ≤ o.what ∧ o.what ≤ 4) then 1 else if placeErr o.place ≠ 0 then placeErr o.place
  else if o.what = 1 ∧ letterB o.letter = false then 1 else if o.what ≠ 1 ∧ o.letter ≠ 0 then 3 else if o.what ≠ 4 ∧ 0 < o.seen.length then 3
  else if 40 < o.seen.length then 4 else riseErr o.seen

set_option maxRecDepth 100000 in
set_option maxHeartbeats 4000000 in
theorem opCheck_any (w : World) (A : Option Addr) (c : Nat) (o : LOp) (h : Reads w w.heap.size 2 A o.seen.length (dcells o.seen)) (hp : o.place.size ≤ 9223372036854775807) :
    Calls Tryz.prog 81 #[o.val A c] w (CheckPost w (errV (opErr o))) := by
  obtain ⟨⟨who, n⟩, what, place, letter, seen⟩ := o
  have HB := Lib.hid (Blk.new w 30 (LOp.cells ⟨⟨who, n⟩, what, place, letter, seen⟩ A c))
  have HBel : Hid (Below w.heap.size w (w.alloc (.cells (LOp.cells ⟨⟨who, n⟩, what, place, letter, seen⟩ A c) 30))) := (Below.refl _ _).alloc (Nat.le_refl _) _
  have HD := Lib.hid (fun w => dotCheck_any w who n)
  have HP := Lib.hid (fun w => check_any w place hp)
  have HL := Lib.hid (fun w => letter_any w letter)
  have HS := Lib.hid h
  clear h
  unfold LOp.val LOp.cells at *
  by_cases hd : dotErr ⟨who, n⟩ = 0
  · have HDE := Lib.hid hd
    clear hd
    have c0 : (w.alloc (.cells #[.int .i64 who, .int .i64 n, .int .i64 what, .string place, .int .i64 letter, .slice A seen.length c] 30)).cell? ⟨w.heap.size, 0, none⟩ = some (.int .i64 who) := by rw [HB.out.cell]; rfl
    have c1 : (w.alloc (.cells #[.int .i64 who, .int .i64 n, .int .i64 what, .string place, .int .i64 letter, .slice A seen.length c] 30)).cell? ⟨w.heap.size, 1, none⟩ = some (.int .i64 n) := by rw [HB.out.cell]; rfl
    go_enter Tryz.func81, Tryz.ntmps81
    go_wp2_with fail
    refine (HD.out _).mono ?_
    rintro e w1 ⟨rfl, hb1⟩
    rw [HDE.out, show errV 0 = .nilIface from rfl]
    have k2 : w1.cell? ⟨w.heap.size, 2, none⟩ = some (.int .i64 what) := by rw [(HB.out.below hb1 (by simp)).cell]; rfl
    have k3 : w1.cell? ⟨w.heap.size, 3, none⟩ = some (.string place) := by rw [(HB.out.below hb1 (by simp)).cell]; rfl
    have k4 : w1.cell? ⟨w.heap.size, 4, none⟩ = some (.int .i64 letter) := by rw [(HB.out.below hb1 (by simp)).cell]; rfl
    have k5 : w1.cell? ⟨w.heap.size, 5, none⟩ = some (.slice A seen.length c) := by rw [(HB.out.below hb1 (by simp)).cell]; rfl
    have hb01 : Hid (Below w.heap.size w w1) := HBel.out.trans (hb1.mono (by simp))
    have hlt1 : Hid (w.heap.size < w1.heap.size) := by have := hb1.size; simp at this; show w.heap.size < w1.heap.size; omega
    clear hb1 c0 c1
    by_cases h1 : what < 1
    · have HZ : Hid (opErr ⟨⟨who, n⟩, what, place, letter, seen⟩ = 1) := by
        show opErr _ = 1
        unfold opErr
        rw [if_neg (fun h => h HDE.out), if_pos (by show ¬ (1 ≤ what ∧ what ≤ 4); omega)]
      go_wp2_with fail
      go_ret
      exact ⟨by rw [HZ.out]; rfl, hb01.out⟩
    · by_cases h2 : 4 < what
      · have HZ : Hid (opErr ⟨⟨who, n⟩, what, place, letter, seen⟩ = 1) := by
          show opErr _ = 1
          unfold opErr
          rw [if_neg (fun h => h HDE.out), if_pos (by show ¬ (1 ≤ what ∧ what ≤ 4); omega)]
        go_wp2_with fail
        go_ret
        exact ⟨by rw [HZ.out]; rfl, hb01.out⟩
      · have HW : Hid (¬ ¬ (1 ≤ what ∧ what ≤ 4)) := by show ¬ ¬ (1 ≤ what ∧ what ≤ 4); omega
        by_cases hpl : placeErr place = 0
        · have HPL := Lib.hid hpl
          clear hpl
          go_wp2_with fail
          refine (HP.out _).mono ?_
          rintro e w2 ⟨rfl, hb2⟩
          rw [HPL.out, show errV 0 = .nilIface from rfl]
          have m2 : w2.cell? ⟨w.heap.size, 2, none⟩ = some (.int .i64 what) := (hb2.cell hlt1.out).trans k2
          have m4 : w2.cell? ⟨w.heap.size, 4, none⟩ = some (.int .i64 letter) := (hb2.cell hlt1.out).trans k4
          have m5 : w2.cell? ⟨w.heap.size, 5, none⟩ = some (.slice A seen.length c) := (hb2.cell hlt1.out).trans k5
          have hb02 : Hid (Below w.heap.size w w2) := hb01.out.trans (hb2.mono (Nat.le_of_lt hlt1.out))
          clear hb2 k2 k3 k4 k5
          have HRISE : Hid (seen.length ≤ 1048576 → Calls Tryz.prog 138 #[.slice A seen.length c] w2 (CheckPost w2 (errV (riseErr seen)))) := fun hn => rise_any w2 A c seen ((HS.out.below hb02.out).more hb02.out.size) hn
          by_cases h3 : what = 1
          · subst h3
            go_wp2_with fail
            refine (HL.out _).mono ?_
            rintro e w3 ⟨rfl, rfl⟩
            cases hlb : letterB letter with
            | false =>
              have HZ : Hid (opErr ⟨⟨who, n⟩, 1, place, letter, seen⟩ = 1) := by
                show opErr _ = _
                have e1 := HDE.out
                have e2 := HPL.out
                unfold opErr
                simp [e1, e2, hlb]
              go_wp2_with fail
              go_ret
              exact ⟨by rw [HZ.out]; rfl, hb02.out⟩
            | true =>
              by_cases h4 : 0 < seen.length
              · have HZ : Hid (opErr ⟨⟨who, n⟩, 1, place, letter, seen⟩ = 3) := by
                  show opErr _ = _
                  have e1 := HDE.out
                  have e2 := HPL.out
                  unfold opErr
                  simp [e1, e2, hlb, h4]
                have hd4 : decide (0 < seen.length) = true := by simpa using h4
                go_wp2_with fail
                go_ret
                exact ⟨by rw [HZ.out]; rfl, hb02.out⟩
              · have HZ : Hid (opErr ⟨⟨who, n⟩, 1, place, letter, seen⟩ = riseErr seen) := by
                  show opErr _ = _
                  have e1 := HDE.out
                  have e2 := HPL.out
                  unfold opErr
                  rw [if_neg (by simp [e1]), if_neg (by simp), if_neg (by simp [e2]), if_neg (by simp [hlb]), if_neg (by simp), if_neg (by intro h; exact h4 h.2), if_neg (by show ¬ 40 < seen.length; omega)]
                have hd4 : decide (0 < seen.length) = false := by simpa using h4
                have hd5 : decide (40 < seen.length) = false := by simp; omega
                go_wp2_with fail
                refine (HRISE.out (by omega)).mono ?_
                rintro e w3 ⟨rfl, hb3⟩
                rw [← HZ.out]
                go_wp2_with fail
                go_ret
                exact ⟨rfl, hb02.out.trans (hb3.mono (hb02.out.size))⟩
          · have hw1 : (what == 1) = false := by simpa using h3
            have hw2 : (what != 1) = true := by simpa using h3
            by_cases h5 : letter = 0
            · subst h5
              by_cases h6 : what = 4
              · subst h6
                by_cases h7 : 40 < seen.length
                · have HZ : Hid (opErr ⟨⟨who, n⟩, 4, place, 0, seen⟩ = 4) := by
                    show opErr _ = _
                    have e1 := HDE.out
                    have e2 := HPL.out
                    unfold opErr
                    simp [e1, e2, h7]
                  have hd5 : decide (40 < seen.length) = true := by simpa using h7
                  go_wp2_with fail
                  go_ret
                  exact ⟨by rw [HZ.out]; rfl, hb02.out⟩
                · have HZ : Hid (opErr ⟨⟨who, n⟩, 4, place, 0, seen⟩ = riseErr seen) := by
                    show opErr _ = _
                    have e1 := HDE.out
                    have e2 := HPL.out
                    unfold opErr
                    simp [e1, e2, h7]
                  have hd5 : decide (40 < seen.length) = false := by simpa using h7
                  go_wp2_with fail
                  refine (HRISE.out (by omega)).mono ?_
                  rintro e w3 ⟨rfl, hb3⟩
                  rw [← HZ.out]
                  go_wp2_with fail
                  go_ret
                  exact ⟨rfl, hb02.out.trans (hb3.mono (hb02.out.size))⟩
              · have hw4 : (what != 4) = true := by simpa using h6
                by_cases h7 : 0 < seen.length
                · have HZ : Hid (opErr ⟨⟨who, n⟩, what, place, 0, seen⟩ = 3) := by
                    show opErr _ = _
                    have e1 := HDE.out
                    have e2 := HPL.out
                    unfold opErr
                    rw [if_neg (by simp [e1]), if_neg HW.out, if_neg (by simp [e2]), if_neg (by simp [h3]), if_neg (by simp), if_pos ⟨h6, h7⟩]
                  have hd4 : decide (0 < seen.length) = true := by simpa using h7
                  go_wp2_with fail
                  go_ret
                  exact ⟨by rw [HZ.out]; rfl, hb02.out⟩
                · have HZ : Hid (opErr ⟨⟨who, n⟩, what, place, 0, seen⟩ = riseErr seen) := by
                    show opErr _ = _
                    have e1 := HDE.out
                    have e2 := HPL.out
                    unfold opErr
                    rw [if_neg (by simp [e1]), if_neg HW.out, if_neg (by simp [e2]), if_neg (by simp [h3]), if_neg (by simp), if_neg (by intro h; exact h7 h.2), if_neg (by show ¬ 40 < seen.length; omega)]
                  have hd4 : decide (0 < seen.length) = false := by simpa using h7
                  have hd5 : decide (40 < seen.length) = false := by simp; omega
                  go_wp2_with fail
                  refine (HRISE.out (by omega)).mono ?_
                  rintro e w3 ⟨rfl, hb3⟩
                  rw [← HZ.out]
                  go_wp2_with fail
                  go_ret
                  exact ⟨rfl, hb02.out.trans (hb3.mono (hb02.out.size))⟩
            · have hl1 : (letter != 0) = true := by simpa using h5
              have HZ : Hid (opErr ⟨⟨who, n⟩, what, place, letter, seen⟩ = 3) := by
                show opErr _ = _
                have e1 := HDE.out
                have e2 := HPL.out
                unfold opErr
                rw [if_neg (by simp [e1]), if_neg HW.out, if_neg (by simp [e2]), if_neg (by simp [h3]), if_pos ⟨h3, h5⟩]
              go_wp2_with fail
              go_ret
              exact ⟨by rw [HZ.out]; rfl, hb02.out⟩
        · have HV := Lib.hid (errV_ne hpl)
          have HZ : Hid (opErr ⟨⟨who, n⟩, what, place, letter, seen⟩ = placeErr place) := by
            show opErr _ = _
            unfold opErr
            rw [if_neg (fun h => h HDE.out), if_neg HW.out, if_pos hpl]
          clear hpl
          go_wp2_with fail
          refine (HP.out _).mono ?_
          rintro e w2 ⟨rfl, hb2⟩
          rw [HV.out]
          go_wp2_with fail
          go_ret
          exact ⟨by rw [HZ.out, HV.out]; rfl, hb01.out.trans (hb2.mono (Nat.le_of_lt hlt1.out))⟩
  · have HV := Lib.hid (errV_ne hd)
    have HZ : Hid (opErr ⟨⟨who, n⟩, what, place, letter, seen⟩ = dotErr ⟨who, n⟩) := if_pos hd
    clear hd
    go_enter Tryz.func81, Tryz.ntmps81
    go_wp2_with fail
    refine (HD.out _).mono ?_
    rintro e w1 ⟨rfl, hb1⟩
    rw [HV.out]
    go_wp2_with fail
    go_ret
    exact ⟨by rw [HZ.out, HV.out]; rfl, HBel.out.trans (hb1.mono (by simp))⟩
end Go.Proofs.YthfbjfocmnikaaaGreatDoor
/- Bytes as cells: plain. Conditions: none. -/
namespace Go.Proofs.YthfbjfocmnikaaaGreatDoor
open Go.RowKit
set_option linter.unusedVariables false
theorem elemB : Elem Tryz.prog 122 5 1 1 := Elem.mk_ (z := .int .u8 0) Tryz.underlying122 (by kernel_rfl) rfl (by decide)
def bs (l : List UInt8) : List Value := l.map fun b => .int .u8 b.toNat
theorem bs_append (a b : List UInt8) : bs a ++ bs b = bs (a ++ b) := by simp [bs]
theorem bs_len (l : List UInt8) : (bs l).length = l.length := by simp [bs]
theorem oneCells_bs (l : List UInt8) : OneCells (bs l) := by
  intro u hu
  simp only [bs, List.mem_map] at hu
  obtain ⟨b, _, rfl⟩ := hu
  rfl
def u8 (n : Int) : UInt8 := UInt8.ofNat n.toNat
theorem u8_val {n : Int} (h0 : 0 ≤ n) (h1 : n ≤ 255) : ((u8 n).toNat : Int) = n := by simp [u8]; omega
end Go.Proofs.YthfbjfocmnikaaaGreatDoor

/- 2 texts in one: each says ahead of itself what is proved, and its conditions. -/
import Derived.Deep.RegionHeld3
import Derived.Test.YthfbjfocmnikaaaGreatDoorPlaceCheck
/- dot.Check, walked. Conditions: stated with each. -/
namespace Go.Proofs.YthfbjfocmnikaaaGreatDoor
open Go.RowKit
set_option linter.unusedVariables false

structure LDot where
  who : Int
  n : Int
  deriving DecidableEq
def LDot.val (d : LDot) : Value := .agg #[.int .i64 d.who, .int .i64 d.n]
def LDot.cells (d : LDot) : List Value := [.int .i64 d.who, .int .i64 d.n]
def dotErr (d : LDot) : Int := if 1 ≤ d.who ∧ d.who ≤ 8 ∧ 1 ≤ d.n ∧ d.n ≤ 9999 then 0 else 1
set_option maxRecDepth 100000 in
theorem dotCheck_any (w : World) (who n : Int) :
    Calls Tryz.prog 135 #[.agg #[.int .i64 who, .int .i64 n]] w (CheckPost w (errV (dotErr ⟨who, n⟩))) := by
  have HA := Lib.hid (fun w => author_any w who)
  have bad : ¬ (1 ≤ who ∧ who ≤ 8 ∧ 1 ≤ n ∧ n ≤ 9999) → dotErr ⟨who, n⟩ = 1 := fun h => if_neg h
  have good : (1 ≤ who ∧ who ≤ 8 ∧ 1 ≤ n ∧ n ≤ 9999) → dotErr ⟨who, n⟩ = 0 := fun h => if_pos h
  have BAD := Lib.hid bad
  have GOOD := Lib.hid good
  have HB : Hid (Below w.heap.size w (w.alloc (.cells #[.int .i64 who, .int .i64 n] 27))) := (Below.refl _ _).alloc (Nat.le_refl _) _
  clear bad good
  by_cases hw : 1 ≤ who ∧ who ≤ 8
  · have hau : (decide (1 ≤ who) && decide (who ≤ 8)) = true := by simp; omega
    have HAU := Lib.hid hau
    clear hau
    by_cases h1 : n < 1
    · go_enter Tryz.func135, Tryz.ntmps135
      go_wp2_with fail
      refine (HA.out _).mono ?_
      rintro e w1 ⟨rfl, rfl⟩
      rw [HAU.out]
      go_wp2_with fail
      go_ret
      exact ⟨by rw [BAD.out (by omega)]; rfl, HB.out⟩
    · by_cases h2 : 9999 < n
      · go_enter Tryz.func135, Tryz.ntmps135
        go_wp2_with fail
        refine (HA.out _).mono ?_
        rintro e w1 ⟨rfl, rfl⟩
        rw [HAU.out]
        go_wp2_with fail
        go_ret
        exact ⟨by rw [BAD.out (by omega)]; rfl, HB.out⟩
      · go_enter Tryz.func135, Tryz.ntmps135
        go_wp2_with fail
        refine (HA.out _).mono ?_
        rintro e w1 ⟨rfl, rfl⟩
        rw [HAU.out]
        go_wp2_with fail
        go_ret
        exact ⟨by rw [GOOD.out (by omega)]; rfl, HB.out⟩
  · have hau : (decide (1 ≤ who) && decide (who ≤ 8)) = false := by simp; omega
    have HAU := Lib.hid hau
    have HW := Lib.hid hw
    clear hau hw
    go_enter Tryz.func135, Tryz.ntmps135
    go_wp2_with fail
    refine (HA.out _).mono ?_
    rintro e w1 ⟨rfl, rfl⟩
    rw [HAU.out]
    go_wp2_with fail
    go_ret
    exact ⟨by rw [BAD.out (fun h => HW.out ⟨h.1, h.2.1⟩)]; rfl, HB.out⟩
end Go.Proofs.YthfbjfocmnikaaaGreatDoor
/- dot.Order, walked. Conditions: stated with each. -/
namespace Go.Proofs.YthfbjfocmnikaaaGreatDoor
open Go.RowKit
set_option linter.unusedVariables false


def cmpI (a b : Int) : Int := if a < b then -1 else if b < a then 1 else 0
def ordD (a b : LDot) : Int := if cmpI a.who b.who ≠ 0 then cmpI a.who b.who else cmpI a.n b.n
theorem isNaN_any (w : World) (n : Int) : Calls Tryz.prog 201 #[.int .i64 n] w fun e w' => e = .returned (.bool false) ∧ w' = w := by
  go_enter Tryz.func201, Tryz.ntmps201
  go_wp2
  go_ret
  exact ⟨by simp, rfl⟩
set_option maxRecDepth 100000 in
theorem compare_any (w : World) (a b : Int) : Calls Tryz.prog 158 #[.int .i64 a, .int .i64 b] w fun e w' => e = .returned (.int .i64 (cmpI a b)) ∧ w' = w := by
  rcases Int.lt_trichotomy a b with h | h | h
  · have hc : cmpI a b = -1 := if_pos h
    have HC := Lib.hid hc
    clear hc
    go_enter Tryz.func158, Tryz.ntmps158
    go_wp2_with (go_at_call 201; refine (isNaN_any _ _).mono ?_; rintro e w' ⟨rfl, rfl⟩)
    go_ret
    exact ⟨by rw [HC.out]; rfl, rfl⟩
  · subst h
    have hc : cmpI a a = 0 := by unfold cmpI; rw [if_neg (by omega), if_neg (by omega)]
    have HC := Lib.hid hc
    clear hc
    go_enter Tryz.func158, Tryz.ntmps158
    go_wp2_with (go_at_call 201; refine (isNaN_any _ _).mono ?_; rintro e w' ⟨rfl, rfl⟩)
    go_ret
    exact ⟨by rw [HC.out]; rfl, rfl⟩
  · have hc : cmpI a b = 1 := by unfold cmpI; rw [if_neg (by omega), if_pos h]
    have HC := Lib.hid hc
    clear hc
    go_enter Tryz.func158, Tryz.ntmps158
    go_wp2_with (go_at_call 201; refine (isNaN_any _ _).mono ?_; rintro e w' ⟨rfl, rfl⟩)
    go_ret
    exact ⟨by rw [HC.out]; rfl, rfl⟩
def orI (x y : Int) : Int := if x ≠ 0 then x else y
set_option maxRecDepth 100000 in
theorem or_any (w : World) (g : Nat) (x y : Int) (c0 : w.cell? ⟨g, 0, none⟩ = some (.int .i64 x)) (c1 : w.cell? ⟨g, 1, none⟩ = some (.int .i64 y)) :
    Calls Tryz.prog 157 #[.slice (some ⟨g, 0, none⟩) 2 2] w fun e w' => e = .returned (.int .i64 (orI x y)) ∧ w' = w := by
  go_enter Tryz.func157, Tryz.ntmps157
  go_wp2_with fail
  go_loop [8] (fun i => ∃ k : Nat, k ≤ 2 ∧ i = .int .i64 k ∧ Hid (1 ≤ k → x = 0) ∧ Hid (2 ≤ k → y = 0)) (fun i => 2 - (intOf i).toNat)
  case atStart => exact ⟨0, by omega, rfl, fun h => by omega, fun h => by omega⟩
  case round =>
    obtain ⟨k, hk, rfl, p0, p1⟩ := hrel
    rcases (show k = 0 ∨ k = 1 ∨ k = 2 by omega) with rfl | rfl | rfl
    · by_cases hx : x = 0
      · have hb : (x != 0) = false := by simp [hx]
        have HX := Lib.hid hx
        clear hx
        go_wp2_with fail
        go_round
        case rel => exact ⟨1, by omega, rfl, fun _ => HX.out, fun h => by omega⟩
        case measure => simp [intOf]
      · have hb : (x != 0) = true := by simp [hx]
        have HX := Lib.hid hx
        clear hx
        go_wp2_with fail
        go_ret
        exact ⟨by rw [show orI x y = x from if_pos HX.out]; rfl, rfl⟩
    · have HX := Lib.hid (p0.out (by omega))
      clear p0 p1
      by_cases hy : y = 0
      · have hb : (y != 0) = false := by simp [hy]
        have HY := Lib.hid hy
        clear hy
        go_wp2_with fail
        go_round
        case rel => exact ⟨2, by omega, rfl, fun _ => HX.out, fun _ => HY.out⟩
        case measure => simp [intOf]
      · have hb : (y != 0) = true := by simp [hy]
        clear hy
        go_wp2_with fail
        go_ret
        exact ⟨by rw [show orI x y = y from if_neg (fun h => h HX.out)]; rfl, rfl⟩
    · have HX := Lib.hid (p0.out (by omega))
      have HY := Lib.hid (p1.out (by omega))
      clear p0 p1
      go_wp2_with fail
      go_ret
      exact ⟨by rw [show orI x y = y from if_neg (fun h => h HX.out), HY.out]; rfl, rfl⟩
set_option maxRecDepth 100000 in
set_option maxHeartbeats 1000000 in
theorem order_any (w : World) (a0 a1 b0 b1 : Int) :
    Calls Tryz.prog 101 #[.agg #[.int .i64 a0, .int .i64 a1], .agg #[.int .i64 b0, .int .i64 b1]] w (CheckPost w (.int .i64 (ordD ⟨a0, a1⟩ ⟨b0, b1⟩))) := by
  have hb : Blk ((((w.alloc (.cells #[.int .i64 a0, .int .i64 a1] 27)).alloc (.cells #[.int .i64 b0, .int .i64 b1] 27)).alloc (.cells #[.int .i64 (cmpI a0 b0), .int .i64 (cmpI a1 b1)] 3)).drew) (w.heap.size + 1 + 1) 3 #[.int .i64 (cmpI a0 b0), .int .i64 (cmpI a1 b1)] := by
    have := (Blk.new ((w.alloc (.cells #[.int .i64 a0, .int .i64 a1] 27)).alloc (.cells #[.int .i64 b0, .int .i64 b1] 27)) 3 #[.int .i64 (cmpI a0 b0), .int .i64 (cmpI a1 b1)]).drew
    simpa using this
  have OR := Lib.hid (or_any _ (w.heap.size + 1 + 1) (cmpI a0 b0) (cmpI a1 b1) (hb.cell 0) (hb.cell 1))
  have HBel : Hid (Below w.heap.size w ((((w.alloc (.cells #[.int .i64 a0, .int .i64 a1] 27)).alloc (.cells #[.int .i64 b0, .int .i64 b1] 27)).alloc (.cells #[.int .i64 (cmpI a0 b0), .int .i64 (cmpI a1 b1)] 3)).drew)) :=
    ((((Below.refl _ _).alloc (Nat.le_refl _) _).alloc (by simp) _).alloc (by simp; omega) _).drew
  clear hb
  go_enter Tryz.func101, Tryz.ntmps101
  go_wp2_with fail
  go_region_held3 (fun w' => w'.cell? ⟨w.heap.size, 0, none⟩ = some (.int .i64 a0) ∧ w'.cell? ⟨w.heap.size, 1, none⟩ = some (.int .i64 a1) ∧ w'.cell? ⟨w.heap.size + 1, 0, none⟩ = some (.int .i64 b0) ∧ w'.cell? ⟨w.heap.size + 1, 1, none⟩ = some (.int .i64 b1))
    (first
      | go_keep
      | (refine ⟨?_, ?_, ?_, ?_⟩ <;> assumption))
    (first
      | (go_at_call 158; refine (compare_any _ _ _).mono ?_; rintro e w' ⟨rfl, rfl⟩)
      | (go_at_call 157; refine OR.out.mono ?_; rintro e w' ⟨rfl, rfl⟩))
  all_goals
    go_wp2_with fail
    go_ret
    exact ⟨rfl, HBel.out⟩
end Go.Proofs.YthfbjfocmnikaaaGreatDoor

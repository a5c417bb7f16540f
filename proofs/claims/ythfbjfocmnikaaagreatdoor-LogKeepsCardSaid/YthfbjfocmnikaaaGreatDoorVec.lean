/- dot.Vector, dot.ready, dot.Has, dot.Add, walked. Conditions: stated with each. -/
import Derived.Deep.RegionHeld3
import Derived.Test.YthfbjfocmnikaaaGreatDoorDot
namespace Go.Proofs.YthfbjfocmnikaaaGreatDoor
open Go.RowKit
set_option linter.unusedVariables false

def ints (l : List Int) : List Value := l.map fun n => .int .i64 n
theorem ints_at {l : List Int} {k : Nat} (h : k < l.length) : (ints l)[k]? = some (.int .i64 l[k]) := by simp [ints, h]
theorem oneCells_ints (l : List Int) : OneCells (ints l) := by
  intro u hu
  simp only [ints, List.mem_map] at hu
  obtain ⟨n, _, rfl⟩ := hu
  rfl
theorem Reads.int {w : World} {B : Nat} {A : Option Addr} {l : List Int} (h : Reads w B 1 A l.length (ints l)) {k : Nat} (hk : k < l.length) : ∃ ad, A = some ad ∧ ad.block < B ∧ w.cell? (ad.add k) = some (.int .i64 l[k]) := by
  obtain ⟨ad, e, hb, hc⟩ := h.2 (by omega)
  exact ⟨ad, e, hb, hc _ _ (ints_at hk)⟩
def badN (n : Int) : Bool := decide (n < 0) || decide (9999 < n)
def vecErr (l : List Int) : Int := if l.length ≠ 8 then 3 else if l.any badN then 1 else 0
theorem vec_ok {l : List Int} (h : vecErr l = 0) : l.length = 8 ∧ ∀ n ∈ l, 0 ≤ n ∧ n ≤ 9999 := by
  unfold vecErr at h
  by_cases h1 : l.length ≠ 8
  · rw [if_pos h1] at h; omega
  · rw [if_neg h1] at h
    by_cases h2 : l.any badN = true
    · rw [if_pos h2] at h; omega
    · refine ⟨by omega, fun n hn => ?_⟩
      have h3 : badN n = false := by
        cases hb : badN n
        · rfl
        · exact absurd (List.any_eq_true.2 ⟨n, hn, hb⟩) h2
      simp [badN] at h3
      omega

theorem outOf_any (w : World) (n : Int) : Calls Tryz.prog 220 #[.int .i64 n] w fun e w' => e = .returned (.bool (badN n)) ∧ w' = w := by
  by_cases h : n < 0
  · go_enter Tryz.func220, Tryz.ntmps220
    go_wp2
    go_ret
    exact ⟨by simp [badN, h], rfl⟩
  · go_enter Tryz.func220, Tryz.ntmps220
    go_wp2
    go_ret
    exact ⟨by have hd : decide (n < 0) = false := (by simp; omega); simp [badN, hd], rfl⟩

def FoundPost (w : World) (l : List Int) (e : Ending) (w' : World) : Prop := ∃ k : Int, e = .returned (.int .i64 k) ∧ (decide (0 ≤ k) = l.any badN) ∧ -1 ≤ k ∧ k ≤ l.length ∧ w' = w
set_option maxRecDepth 100000 in
set_option maxHeartbeats 1000000 in
theorem indexOut_any (w : World) (A : Option Addr) (c : Nat) (l : List Int) (h : Reads w w.heap.size 1 A l.length (ints l)) (hn : l.length ≤ 1048576) :
    Calls Tryz.prog 246 #[.slice A l.length c, .func (Fn.func 220) #[] #[]] w (FoundPost w l) := by
  have HR := Lib.hid h
  have HO := Lib.hid (fun n => outOf_any w n)
  clear h
  go_enter Tryz.func246, Tryz.ntmps246
  go_wp2_with fail
  go_loop [8] (fun i => ∃ k : Nat, k ≤ l.length ∧ i = .int .i64 k ∧ Hid (∀ j (hj : j < l.length), j < k → badN l[j] = false)) (fun i => l.length - (intOf i).toNat)
  case atStart => exact ⟨0, by omega, rfl, fun j _ h => by omega⟩
  case round =>
    obtain ⟨k, hk, rfl, HA⟩ := hrel
    by_cases hkn : k < l.length
    · obtain ⟨ad, rfl, hb, c0⟩ := HR.out.int hkn
      have hlt : (k : Int) < (l.length : Int) := by omega
      cases hbad : badN l[k] with
      | true =>
        have HBd := Lib.hid hbad
        clear hbad
        go_wp2_with fail
        refine (HO.out _).mono ?_
        rintro e w' ⟨rfl, rfl⟩
        rw [HBd.out]
        go_wp2_with fail
        go_ret
        refine ⟨k, rfl, ?_, by omega, by omega, rfl⟩
        rw [List.any_eq_true.2 ⟨l[k], List.getElem_mem hkn, HBd.out⟩]
        simp
      | false =>
        have HBd := Lib.hid hbad
        clear hbad
        go_wp2_with fail
        refine (HO.out _).mono ?_
        rintro e w' ⟨rfl, rfl⟩
        rw [HBd.out]
        go_wp2_with fail
        go_round
        case rel => exact ⟨k + 1, by omega, by go_num, fun j hj h => by
          rcases Nat.lt_or_ge j k with h1 | h1
          · exact HA.out j hj h1
          · have : j = k := by omega
            subst this
            exact HBd.out⟩
        case measure => simp [intOf]; omega
    · have hd : decide ((k : Int) < (l.length : Int)) = false := by simp; omega
      have hnone : l.any badN = false := by
        cases hh : l.any badN
        · rfl
        · obtain ⟨n, hn, hb⟩ := List.any_eq_true.1 hh
          obtain ⟨j, hj, rfl⟩ := List.getElem_of_mem hn
          rw [HA.out j hj (by omega)] at hb
          cases hb
      have HN := Lib.hid hnone
      clear hnone
      go_wp2_with fail
      go_ret
      exact ⟨-1, rfl, by rw [HN.out]; simp, by omega, by omega, rfl⟩
set_option maxRecDepth 100000 in
theorem someOut_any (w : World) (A : Option Addr) (c : Nat) (l : List Int) (h : Reads w w.heap.size 1 A l.length (ints l)) (hn : l.length ≤ 1048576) :
    Calls Tryz.prog 219 #[.slice A l.length c, .func (Fn.func 220) #[] #[]] w fun e w' => e = .returned (.bool (l.any badN)) ∧ w' = w := by
  have HI := Lib.hid (indexOut_any w A c l h hn)
  clear h
  go_enter Tryz.func219, Tryz.ntmps219
  go_wp2_with fail
  refine HI.out.mono ?_
  rintro e w' ⟨k, rfl, hk, h1, h2, rfl⟩
  have HK := Lib.hid hk
  clear hk
  go_wp2_with fail
  go_ret
  exact ⟨by rw [← HK.out]; rfl, rfl⟩
set_option maxRecDepth 100000 in
theorem vector_any (w : World) (A : Option Addr) (c : Nat) (l : List Int) (h : Reads w w.heap.size 1 A l.length (ints l)) (hn : l.length ≤ 9223372036854775807) :
    Calls Tryz.prog 188 #[.slice A l.length c] w fun e w' => e = .returned (errV (vecErr l)) ∧ w' = w := by
  by_cases h8 : l.length = 8
  · have g8 : ((l.length : Int) != 8) = false := by simp [h8]
    have HS := Lib.hid (someOut_any w A c l h (by omega))
    have HE : Hid (vecErr l = if l.any badN then 1 else 0) := if_neg (by omega)
    clear h8 h
    go_enter Tryz.func188, Tryz.ntmps188
    go_wp2_with fail
    refine HS.out.mono ?_
    rintro e w' ⟨rfl, rfl⟩
    cases hb : l.any badN with
    | true =>
      have HB := Lib.hid hb
      clear hb
      go_wp2_with fail
      go_ret
      exact ⟨by rw [HE.out, HB.out]; rfl, rfl⟩
    | false =>
      have HB := Lib.hid hb
      clear hb
      go_wp2_with fail
      go_ret
      exact ⟨by rw [HE.out, HB.out]; rfl, rfl⟩
  · have g8 : ((l.length : Int) != 8) = true := by simp; omega
    have HE : Hid (vecErr l = 3) := if_pos h8
    clear h8 h
    go_enter Tryz.func188, Tryz.ntmps188
    go_wp2_with fail
    go_ret
    exact ⟨by rw [HE.out]; rfl, rfl⟩

/-- What is wrong with a vector and a dot. -/
def vdErr (l : List Int) (d : LDot) : Int := if vecErr l ≠ 0 then vecErr l else dotErr d
set_option maxRecDepth 100000 in
theorem vready_any (w : World) (A : Option Addr) (c : Nat) (l : List Int) (d : LDot) (h : Reads w w.heap.size 1 A l.length (ints l)) (hn : l.length ≤ 9223372036854775807) :
    Calls Tryz.prog 139 #[.slice A l.length c, .agg #[.int .i64 d.who, .int .i64 d.n]] w (CheckPost w (errV (vdErr l d))) := by
  have hb : Below w.heap.size w (w.alloc (.cells #[.int .i64 d.who, .int .i64 d.n] 27)) := (Below.refl _ _).alloc (Nat.le_refl _) _
  have HV := Lib.hid (vector_any (w.alloc (.cells #[.int .i64 d.who, .int .i64 d.n] 27)) A c l ((h.alloc (Nat.le_refl _) _).more (by simp)) hn)
  have HD := Lib.hid (fun w => dotCheck_any w d.who d.n)
  have HB := Lib.hid hb
  clear h hb hn
  by_cases hv : vecErr l = 0
  · have HE : Hid (vdErr l d = dotErr d) := if_neg (fun h => h hv)
    have HV0 := Lib.hid hv
    clear hv
    go_enter Tryz.func139, Tryz.ntmps139
    go_wp2_with fail
    refine HV.out.mono ?_
    rintro e w' ⟨rfl, rfl⟩
    rw [HV0.out, show errV 0 = .nilIface from rfl]
    go_wp2_with fail
    refine (HD.out _).mono ?_
    rintro e w2 ⟨rfl, hb2⟩
    go_wp2_with fail
    go_ret
    exact ⟨by rw [HE.out]; rfl, HB.out.trans (hb2.mono (by simp))⟩
  · have HE : Hid (vdErr l d = vecErr l) := if_pos hv
    have HN := Lib.hid (errV_ne hv)
    clear hv
    go_enter Tryz.func139, Tryz.ntmps139
    go_wp2_with fail
    refine HV.out.mono ?_
    rintro e w' ⟨rfl, rfl⟩
    rw [HN.out]
    go_wp2_with fail
    go_ret
    exact ⟨by rw [HE.out, HN.out]; rfl, HB.out⟩
end Go.Proofs.YthfbjfocmnikaaaGreatDoor

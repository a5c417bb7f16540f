/- 2 texts in one: each says ahead of itself what is proved, and its conditions. -/
import Derived.Test.YthfbjfocmnikaaaGreatDoorDot
import Derived.Test.YthfbjfocmnikaaaGreatDoorPlaceCheck
/- dot.Rise, walked. Conditions: stated with each. -/
namespace Go.Proofs.YthfbjfocmnikaaaGreatDoor
open Go.RowKit
set_option linter.unusedVariables false

def dcells (l : List LDot) : List Value := l.flatMap LDot.cells
theorem dcells_len (l : List LDot) : (dcells l).length = l.length * 2 := by
  induction l with
  | nil => rfl
  | cons d l ih => simp only [dcells, List.flatMap_cons, List.length_append, List.length_cons] at ih ⊢; rw [ih]; simp [LDot.cells]; omega
theorem dcells_at (l : List LDot) (k : Nat) (hk : k < l.length) : (dcells l)[k * 2]? = some (.int .i64 l[k].who) ∧ (dcells l)[k * 2 + 1]? = some (.int .i64 l[k].n) := by
  induction l generalizing k with
  | nil => simp at hk
  | cons d l ih =>
    cases k with
    | zero => simp [dcells, LDot.cells]
    | succ k =>
      have := ih k (by simpa using hk)
      have e : dcells (d :: l) = [.int .i64 d.who, .int .i64 d.n] ++ dcells l := rfl
      rw [e, List.getElem?_append_right (by simp; omega), List.getElem?_append_right (by simp; omega)]
      simp only [List.length_cons, List.length_nil, List.getElem_cons_succ]
      rw [show (k + 1) * 2 - (0 + 1 + 1) = k * 2 by omega, show (k + 1) * 2 + 1 - (0 + 1 + 1) = k * 2 + 1 by omega]
      exact this

/-- A dot of the row, read. -/
theorem Reads.dot {w : World} {B : Nat} {A : Option Addr} {l : List LDot} (h : Reads w B 2 A l.length (dcells l)) {k : Nat} (hk : k < l.length) :
    ∃ ad, A = some ad ∧ ad.block < B ∧ w.cell? (ad.add (k * 2)) = some (.int .i64 l[k].who) ∧ w.cell? ⟨(ad.add (k * 2)).block, (ad.add (k * 2)).off + 1, none⟩ = some (.int .i64 l[k].n) := by
  obtain ⟨ad, e, hb, hc⟩ := h.2 (by omega)
  exact ⟨ad, e, hb, hc _ _ (dcells_at l k hk).1, (by rw [show (⟨(ad.add (k * 2)).block, (ad.add (k * 2)).off + 1, none⟩ : Addr) = (ad.add (k * 2)).add 1 from rfl, add_of_add]; exact hc _ _ (dcells_at l k hk).2 : w.cell? ⟨(ad.add (k * 2)).block, (ad.add (k * 2)).off + 1, none⟩ = some (.int .i64 l[k].n))⟩

/-- Do they rise from place k on? -/
def riseErr (l : List LDot) : Int :=
  if l.all (fun d => dotErr d == 0) then (if (List.range (l.length - 1)).all (fun k => decide (ordD (l.getD k ⟨0, 0⟩) (l.getD (k + 1) ⟨0, 0⟩) < 0)) then 0 else 7) else 1

def RiseLoop (w : World) (l : List LDot) (i : Value) (wr : World) : Prop :=
  ∃ k : Nat, k ≤ l.length ∧ i = .int .i64 k ∧ Below w.heap.size w wr ∧ Hid (∀ j (h : j < l.length), j < k → dotErr l[j] = 0)

theorem rise_ok1 {l : List LDot} (h : ∀ j (hj : j < l.length), dotErr l[j] = 0) : (l.all (fun d => dotErr d == 0)) = true := by
  rw [List.all_eq_true]
  intro d hd
  obtain ⟨j, hj, rfl⟩ := List.getElem_of_mem hd
  simpa using h j hj
theorem rise_bad1 {l : List LDot} {k : Nat} (hk : k < l.length) (h : dotErr l[k] ≠ 0) : riseErr l = 1 := by
  unfold riseErr
  rw [if_neg]
  rw [List.all_eq_true]
  intro hh
  have := hh l[k] (List.getElem_mem hk)
  exact h (by simpa using this)

theorem dotErr_one {d : LDot} (h : dotErr d ≠ 0) : dotErr d = 1 := by unfold dotErr at h ⊢; split <;> simp_all
theorem getD_of {l : List LDot} {k : Nat} (hk : k < l.length) : l.getD k ⟨0, 0⟩ = l[k] := by simp [List.getD, List.getElem?_eq_getElem hk]
def RiseLoop2 (w : World) (l : List LDot) (i : Value) (wr : World) : Prop :=
  ∃ k : Nat, (k = 0 ∨ k + 1 ≤ l.length) ∧ i = .int .i64 ((k : Int) + 1) ∧ Below w.heap.size w wr ∧ Hid (∀ j, j < k → ordD (l.getD j ⟨0, 0⟩) (l.getD (j + 1) ⟨0, 0⟩) < 0)
theorem rise_bad2 {l : List LDot} {k : Nat} (h0 : (l.all (fun d => dotErr d == 0)) = true) (hk : k + 1 < l.length) (h : 0 ≤ ordD l[k] l[k + 1]) : riseErr l = 7 := by
  unfold riseErr
  rw [if_pos h0, if_neg]
  rw [List.all_eq_true]
  intro hh
  have := hh k (by simp; omega)
  rw [decide_eq_true_iff, getD_of (show k < l.length by omega), getD_of hk] at this
  omega
theorem rise_ok2 {l : List LDot} {k : Nat} (h0 : (l.all (fun d => dotErr d == 0)) = true) (hk : l.length ≤ k + 1) (h : ∀ j, j < k → ordD (l.getD j ⟨0, 0⟩) (l.getD (j + 1) ⟨0, 0⟩) < 0) : riseErr l = 0 := by
  unfold riseErr
  rw [if_pos h0, if_pos]
  rw [List.all_eq_true]
  intro j hj
  have : j < k := by simp at hj; omega
  simpa using h j this

set_option maxRecDepth 100000 in
set_option maxHeartbeats 4000000 in
theorem rise_any (w : World) (A : Option Addr) (c : Nat) (l : List LDot) (h : Reads w w.heap.size 2 A l.length (dcells l)) (hn : l.length ≤ 1048576) :
    Calls Tryz.prog 138 #[.slice A l.length c] w (CheckPost w (errV (riseErr l))) := by
  have HC := Lib.hid (fun w (d : LDot) => dotCheck_any w d.who d.n)
  have HO := Lib.hid (fun w (a b : LDot) => order_any w a.who a.n b.who b.n)
  have HR := Lib.hid h
  clear h
  go_enter Tryz.func138, Tryz.ntmps138
  go_wp2_with fail
  go_loopw [9] (fun i wr => RiseLoop w l i wr) (fun i _ => l.length - (intOf i).toNat)
  case atStart => exact ⟨0, by omega, rfl, Below.refl _ _, fun j hj h => by omega⟩
  case round =>
    obtain ⟨k, hk, rfl, hBel, hp⟩ := hrel
    by_cases hkn : k < l.length
    · obtain ⟨ad, rfl, hb, c0, c1⟩ := (HR.out.below hBel).dot hkn
      have hlt : (k : Int) < (l.length : Int) := by omega
      by_cases he : dotErr l[k] = 0
      · have HE := Lib.hid he
        clear he
        have hb1 := hBel.alloc hBel.size (.cells #[.int .i64 l[k].who, .int .i64 l[k].n] 27)
        go_wp2_with fail
        refine (HC.out _ l[k]).mono ?_
        rintro e w2 ⟨rfl, hb2⟩
        rw [show dotErr ⟨l[k].who, l[k].n⟩ = 0 from HE.out, show errV 0 = .nilIface from rfl]
        go_wp2_with fail
        go_roundw
        case rel =>
          refine ⟨k + 1, by omega, rfl, hb1.trans (hb2.mono hb1.size), fun j hj h => ?_⟩
          rcases Nat.lt_or_ge j k with h1 | h1
          · exact hp.out j hj h1
          · have : j = k := by omega
            subst this
            exact HE.out
        case measure => simp [intOf]; omega
      · have HE := Lib.hid he
        clear he
        have hb1 := hBel.alloc hBel.size (.cells #[.int .i64 l[k].who, .int .i64 l[k].n] 27)
        go_wp2_with fail
        refine (HC.out _ l[k]).mono ?_
        rintro e w2 ⟨rfl, hb2⟩
        rw [show errV (dotErr ⟨l[k].who, l[k].n⟩) = _ from errV_ne HE.out]
        go_wp2_with fail
        go_ret
        refine ⟨?_, hb1.trans (hb2.mono hb1.size)⟩
        rw [rise_bad1 hkn HE.out, show dotErr ⟨l[k].who, l[k].n⟩ = 1 from dotErr_one HE.out]
        rfl
    · have hkn' : k = l.length := by omega
      subst hkn'
      have HP := Lib.hid (rise_ok1 (fun j hj => hp.out j hj hj))
      clear hp
      go_wp2_with fail
      go_loopw [6] (fun i wr => RiseLoop2 w l i wr) (fun i _ => l.length - (intOf i).toNat)
      case atStart => exact ⟨0, by omega, rfl, hBel, fun j hj => by omega⟩
      case round =>
        obtain ⟨k, hk, rfl, hBel, hp⟩ := hrel
        by_cases hkn : k + 1 < l.length
        · obtain ⟨ad, rfl, hb, c0, c1⟩ := (HR.out.below hBel).dot (show k < l.length by omega)
          obtain ⟨ad', had, hb', d0, d1⟩ := (HR.out.below hBel).dot (show k + 1 < l.length by omega)
          injection had with had
          subst had
          have hlt : (k : Int) + 1 < (l.length : Int) := by omega
          have hbk : ∀ k, Hid ((ad.add (k * 2)).block < wr.heap.size) := fun k => by have := hBel.size; show (ad.add (k * 2)).block < wr.heap.size; rw [block_of_add]; omega
          have z0 : (0 : Int) ≤ (k : Int) := by omega
          have z1 : (k : Int) < (l.length : Int) := by omega
          have z2 : (0 : Int) ≤ (k : Int) + 1 := by omega
          have z3 : ((k : Int) + 1 - 1) = k := by omega
          have hw1 : IntKind.i64.wrap ((k : Int) + 1 - 1) = (k : Int) := by rw [IntWalk.i64_in _ (by omega)]; omega
          have hw2 : IntKind.i64.wrap (k : Int) = (k : Int) := IntWalk.i64_in _ (by omega)
          have z5 : k < l.length := by omega
          have z4 : ((k : Int) + 1).toNat = k + 1 := by omega
          go_wp2_with fail
          go_region_held3 (fun w' => w'.cell? (ad.add (k * 2)) = some (.int .i64 l[k].who) ∧ w'.cell? ⟨(ad.add (k * 2)).block, (ad.add (k * 2)).off + 1, none⟩ = some (.int .i64 l[k].n) ∧ w'.cell? (ad.add ((k + 1) * 2)) = some (.int .i64 l[k + 1].who) ∧ w'.cell? ⟨(ad.add ((k + 1) * 2)).block, (ad.add ((k + 1) * 2)).off + 1, none⟩ = some (.int .i64 l[k + 1].n))
            (first
              | go_keep
              | (refine ⟨?_, ?_, ?_, ?_⟩ <;> assumption))
            ((go_at_call 101; refine (HO.out _ l[k] l[k + 1]).mono ?_; rintro e w2 ⟨rfl, hb2⟩; have e0 := (hb2.cell (hbk k).out).trans c0; have e1 := (hb2.cell (p := ⟨(ad.add (k * 2)).block, (ad.add (k * 2)).off + 1, none⟩) (hbk k).out).trans c1; have e2 := (hb2.cell (hbk (k + 1)).out).trans d0; have e3 := (hb2.cell (p := ⟨(ad.add ((k + 1) * 2)).block, (ad.add ((k + 1) * 2)).off + 1, none⟩) (hbk (k + 1)).out).trans d1))
          by_cases ho : 0 ≤ ordD l[k] l[k + 1]
          · have hd : decide (0 ≤ ordD ⟨l[k].who, l[k].n⟩ ⟨l[k + 1].who, l[k + 1].n⟩) = true := by simpa using ho
            have HZ := Lib.hid (rise_bad2 HP.out hkn ho)
            clear ho
            rw [hd]
            go_wp2_with fail
            go_ret
            exact ⟨by rw [HZ.out]; rfl, hBel.drew.trans (hb2.mono hBel.size)⟩
          · have hd : decide (0 ≤ ordD ⟨l[k].who, l[k].n⟩ ⟨l[k + 1].who, l[k + 1].n⟩) = false := by simpa using ho
            have HZ := Lib.hid ho
            clear ho
            rw [hd]
            go_wp2_with fail
            go_roundw
            case rel =>
              refine ⟨k + 1, by omega, rfl, hBel.drew.trans (hb2.mono hBel.size), fun j hj => ?_⟩
              rcases Nat.lt_or_ge j k with h1 | h1
              · exact hp.out j h1
              · have : j = k := by omega
                subst this
                rw [getD_of (show j < l.length by omega), getD_of hkn]
                have := HZ.out
                omega
            case measure => simp [intOf]; omega
        · have hkn' : l.length ≤ k + 1 := by omega
          have HZ := Lib.hid (rise_ok2 HP.out hkn' hp.out)
          have hd : decide ((k : Int) + 1 < (l.length : Int)) = false := by simp; omega
          go_wp2_with fail
          go_ret
          exact ⟨by rw [HZ.out]; rfl, hBel⟩
end Go.Proofs.YthfbjfocmnikaaaGreatDoor
/- book.Letter, walked. Conditions: stated with each. -/
namespace Go.Proofs.YthfbjfocmnikaaaGreatDoor
open Go.RowKit
set_option linter.unusedVariables false

def letterB (n : Int) : Bool := decide (32 ≤ n) && decide (n ≤ 126)
theorem letter_any (w : World) (n : Int) :
    Calls Tryz.prog 137 #[.int .i64 n] w fun e w' => e = .returned (.bool (letterB n)) ∧ w' = w := by
  by_cases h : 32 ≤ n
  · go_enter Tryz.func137, Tryz.ntmps137
    go_wp2
    go_ret
    exact ⟨by simp [h, letterB], rfl⟩
  · go_enter Tryz.func137, Tryz.ntmps137
    go_wp2
    go_ret
    have hd : letterB n = false := by simp [letterB]; omega
    exact ⟨by rw [hd]; rfl, rfl⟩
end Go.Proofs.YthfbjfocmnikaaaGreatDoor

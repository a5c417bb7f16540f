/- Is a dot among some (slices.Index, Contains); which marks a join takes away; slices.IndexFunc of marks, walked. Conditions: few dots. -/
import Derived.Test.YthfbjfocmnikaaaGreatDoorMarkCut
import Derived.Test.YthfbjfocmnikaaaGreatDoorMarkSeen
namespace Go.Proofs.YthfbjfocmnikaaaGreatDoor
open Go.RowKit
set_option linter.unusedVariables false
namespace MarkJoin
set_option maxRecDepth 100000 in
theorem eq_dot (W : World) (x0 y0 : Int) (x1 y1 : Int) : (Op.equalIn 10000 27 (.agg #[.int .i64 x0, .int .i64 x1]) (.agg #[.int .i64 y0, .int .i64 y1])).run Tryz.prog W = .ok (x0 == y0 && (x1 == y1)) W := by
  have ui := Tryz.underlying3
  have hS : Tryz.prog.underlying 27 = some (.struct (Tryz.prog.fieldsOf 27)) := by kernel_rfl
  have hp : Tryz.prog.stoodInHeld 27 = false := by kernel_rfl
  rw [show (10000 : Nat) = 9999 + 1 from rfl, run_equalIn_agg W 9999 27 _ _ hS hp]
  simp only [Program.fieldsOf, Tryz.underlying27]
  go_simp
  by_cases h0 : x0 = y0 <;> by_cases h1 : x1 = y1 <;> simp [h0, h1]
theorem dot_same {x0 y0 : Int} {x1 y1 : Int} : (x0 == y0 && (x1 == y1)) = decide ((⟨x0, x1⟩ : LDot) = ⟨y0, y1⟩) := by
  rw [Bool.eq_iff_iff]
  simp only [Bool.and_eq_true, beq_iff_eq, decide_eq_true_eq, LDot.mk.injEq]
def IdxLoop (w : World) (l : List LDot) (d : LDot) (i : Value) (wr : World) : Prop :=
  ∃ k : Nat, k ≤ l.length ∧ i = .int .i64 k ∧ Hid (Below w.heap.size w wr) ∧ Hid (∀ j (hj : j < l.length), j < k → l[j] ≠ d)
def IdxPost (w : World) (b : Bool) (e : Ending) (w' : World) : Prop := ∃ r : Int, e = .returned (.int .i64 r) ∧ decide (0 ≤ r) = b ∧ Below w.heap.size w w'
set_option maxRecDepth 100000 in
set_option maxHeartbeats 2000000 in
theorem index_any (w : World) (A : Option Addr) (c : Nat) (l : List LDot) (d : LDot) (h : Reads w w.heap.size 2 A l.length (dcells l)) (hn : l.length ≤ 1000) :
    Calls Tryz.prog 250 #[.slice A l.length c, .agg #[.int .i64 d.who, .int .i64 d.n]] w (IdxPost w (inD l d)) := by
  obtain ⟨W0, hW0⟩ : ∃ W0, W0 = w.alloc (.cells #[.int .i64 d.who, .int .i64 d.n] 27) := ⟨_, rfl⟩
  have HSZ : Hid (w.heap.size < W0.heap.size) := by show _ < _; rw [hW0]; simp
  have HBW : Hid (Below w.heap.size w W0) := by show Below _ _ _; rw [hW0]; exact (Below.refl _ _).alloc (Nat.le_refl _) _
  have HR : Hid (∀ W, Below W0.heap.size W0 W → Reads W W.heap.size 2 A l.length (dcells l)) := fun W hb => ((((h.below HBW.out).more HBW.out.size).below hb).more hb.size)
  have HBK : Hid (∀ W, Below W0.heap.size W0 W → W.cell? ⟨w.heap.size, 0, none⟩ = some (.int .i64 d.who) ∧ W.cell? ⟨w.heap.size, 1, none⟩ = some (.int .i64 d.n)) := fun W hb => by
    have h0 : Blk W0 w.heap.size 27 #[.int .i64 d.who, .int .i64 d.n] := by rw [hW0]; exact Blk.new w _ _
    have h1 := h0.below hb HSZ.out
    exact ⟨by rw [h1.cell]; rfl, by rw [h1.cell]; rfl⟩
  clear h
  obtain ⟨d0, d1⟩ := d
  simp only at hW0 HBK
  go_enter Tryz.func250, Tryz.ntmps250
  go_wp2_with fail
  rw [← hW0]
  clear hW0
  go_loopw [8] (fun i wr => IdxLoop W0 l ⟨d0, d1⟩ i wr) (fun i _ => l.length - (intOf i).toNat)
  case atStart => exact ⟨0, by omega, rfl, Below.refl _ _, fun j hj h => by omega⟩
  case round =>
    obtain ⟨k, hk, rfl, HB, HN⟩ := hrel
    by_cases hkn : k < l.length
    · obtain ⟨ad, rfl, hb, c0, c1⟩ := (HR.out _ HB.out).dot hkn
      obtain ⟨b0, b1⟩ := HBK.out _ HB.out
      have hlt : (k : Int) < (l.length : Int) := by omega
      have hk0 : (0 : Int) ≤ (k : Int) := by omega
      have HX : Hid (∀ x, x = l[k] → ∀ j (hj : j < l.length), j < k + 1 → (x ≠ ⟨d0, d1⟩) → l[j] ≠ ⟨d0, d1⟩) := fun x hx j hj hjk hne => by
        rcases Nat.eq_or_lt_of_le (Nat.le_of_lt_succ hjk) with h | h
        · subst h; rw [← hx]; exact hne
        · exact HN.out j hj h
      have HM : Hid (∀ x, x = l[k] → x = ⟨d0, d1⟩ → inD l ⟨d0, d1⟩ = true) := fun x hx he => inD_iff.2 (by rw [← he, hx]; exact List.getElem_mem hkn)
      generalize hlk : l[k] = x at *
      have HX2 := Lib.hid (HX.out x rfl)
      have HM2 := Lib.hid (HM.out x rfl)
      clear HX HM hlk
      obtain ⟨x0, x1⟩ := x
      simp only at c0 c1
      have heq := fun W => eq_dot W d0 x0 d1 x1
      by_cases hx : (⟨x0, x1⟩ : LDot) = ⟨d0, d1⟩
      · have g1 : (d0 == x0 && (d1 == x1)) = true := by rw [dot_same]; exact decide_eq_true hx.symm
        have HT := Lib.hid (HM2.out hx)
        clear hx
        go_wp2_with fail
        go_quiet (fail)
        go_wp2_with fail
        go_ret
        exact ⟨(k : Int), rfl, by rw [HT.out]; exact decide_eq_true hk0, HBW.out.trans ((below_drewN HB.out _).mono HBW.out.size)⟩
      · have g1 : (d0 == x0 && (d1 == x1)) = false := by rw [dot_same]; exact decide_eq_false (fun h => hx h.symm)
        have HT : Hid (∀ j (hj : j < l.length), j < k + 1 → l[j] ≠ ⟨d0, d1⟩) := fun j hj hjk => HX2.out j hj hjk hx
        clear hx
        go_wp2_with fail
        go_quiet (fail)
        go_wp2_with fail
        go_roundw
        case rel => exact ⟨k + 1, by omega, by go_num, below_drewN HB.out _, HT⟩
        case measure => simp [intOf]; omega
    · have hd : decide ((k : Int) < (l.length : Int)) = false := by simp; omega
      have HT : Hid (inD l ⟨d0, d1⟩ = false) := by
        show _ = _
        cases h : inD l ⟨d0, d1⟩
        · rfl
        · obtain ⟨j, hj, e⟩ := List.getElem_of_mem (inD_iff.1 h)
          exact absurd e (HN.out j hj (by omega))
      go_wp2_with fail
      go_ret
      exact ⟨-1, rfl, by rw [HT.out]; rfl, HBW.out.trans (HB.out.mono HBW.out.size)⟩
set_option maxRecDepth 100000 in
theorem contains_any (w : World) (A : Option Addr) (c : Nat) (l : List LDot) (d : LDot) (h : Reads w w.heap.size 2 A l.length (dcells l)) (hn : l.length ≤ 1000) :
    Calls Tryz.prog 228 #[.slice A l.length c, .agg #[.int .i64 d.who, .int .i64 d.n]] w (CheckPost w (.bool (inD l d))) := by
  have HI := Lib.hid (index_any (w.alloc (.cells #[.int .i64 d.who, .int .i64 d.n] 27)) A c l d ((h.alloc (Nat.le_refl _) _).more (by simp)) hn)
  have HB : Hid (Below w.heap.size w (w.alloc (.cells #[.int .i64 d.who, .int .i64 d.n] 27))) := (Below.refl _ _).alloc (Nat.le_refl _) _
  clear h
  go_enter Tryz.func228, Tryz.ntmps228
  go_wp2_with fail
  refine HI.out.mono ?_
  rintro e w1 ⟨r, rfl, hr, hb1⟩
  have HB1 := Lib.hid (HB.out.trans (hb1.mono HB.out.size))
  have HR := Lib.hid hr
  clear hb1 hr
  go_wp2_with fail
  go_ret
  exact ⟨by rw [← HR.out]; rfl, HB1.out⟩
/-- What a join has caught. -/
structure Env (w : World) (B : Nat) (p : ByteArray) (seen : List LDot) (b4 b5 : Nat) (A : Option Addr) (c : Nat) : Prop where
  l4 : b4 < B
  l5 : b5 < B
  k4 : w.cell? ⟨b4, 0, none⟩ = some (.string p)
  k5 : w.cell? ⟨b5, 0, none⟩ = some (.slice A seen.length c)
  row : Reads w B 2 A seen.length (dcells seen)
  few : seen.length ≤ 1000
theorem Env.below {w w' : World} {B : Nat} {p : ByteArray} {seen : List LDot} {b4 b5 : Nat} {A : Option Addr} {c : Nat} (h : Env w B p seen b4 b5 A c) (hb : Below B w w') : Env w' B p seen b4 b5 A c :=
  ⟨h.l4, h.l5, (hb.cell h.l4).trans h.k4, (hb.cell h.l5).trans h.k5, h.row.keep (fun p hp => hb.cell hp), h.few⟩
theorem Env.alloc {w : World} {B : Nat} {p : ByteArray} {seen : List LDot} {b4 b5 : Nat} {A : Option Addr} {c : Nat} (h : Env w B p seen b4 b5 A c) (hB : B ≤ w.heap.size) (o : Obj) : Env (w.alloc o) B p seen b4 b5 A c :=
  h.below ((Below.refl _ _).alloc hB _)
set_option maxRecDepth 100000 in
set_option maxHeartbeats 1000000 in
theorem fn_any (w : World) (B : Nat) (p : ByteArray) (seen : List LDot) (b4 b5 : Nat) (A : Option Addr) (c : Nat) (m : LMark) (h : Env w B p seen b4 b5 A c) (hB : B ≤ w.heap.size) :
    Calls Tryz.prog 227 #[.agg #[.string m.place, .int .i64 m.dot.who, .int .i64 m.dot.n], .pointer (some ⟨b4, 0, none⟩), .pointer (some ⟨b5, 0, none⟩)] w (CheckPost w (.bool (joined p seen m))) := by
  obtain ⟨q, ⟨d, n⟩⟩ := m
  have HE := Lib.hid (h.alloc hB (.cells #[.string q, .int .i64 d, .int .i64 n] 136))
  have HB : Hid (Below w.heap.size w (w.alloc (.cells #[.string q, .int .i64 d, .int .i64 n] 136))) := (Below.refl _ _).alloc (Nat.le_refl _) _
  have HC := Lib.hid (contains_any (w.alloc (.cells #[.string q, .int .i64 d, .int .i64 n] 136)) A c seen ⟨d, n⟩ (HE.out.row.more (by simp; omega)) HE.out.few)
  have k4 := HE.out.k4
  have k5 := HE.out.k5
  have hz4 := h.l4
  have hz5 := h.l5
  have hj4 : ¬ b4 = w.heap.size := by omega
  have hj5 : ¬ b5 = w.heap.size := by omega
  clear h
  by_cases hq : q = p
  · have g1 : (q.toList == p.toList) = true := by simp [hq]
    have HF : Hid (joined p seen ⟨q, ⟨d, n⟩⟩ = inD seen ⟨d, n⟩) := by show _ = _; unfold joined; rw [decide_eq_true hq]; rfl
    clear hq
    go_enter Tryz.func227, Tryz.ntmps227
    go_wp2_with fail
    refine HC.out.mono ?_
    rintro e w1 ⟨rfl, hb1⟩
    have HB1 := Lib.hid (HB.out.trans (hb1.mono HB.out.size))
    clear hb1
    go_wp2_with fail
    go_ret
    exact ⟨by rw [HF.out]; rfl, HB1.out⟩
  · have g1 : (q.toList == p.toList) = false := by rw [beq_eq_false_iff_ne]; exact fun h => hq (tl_inj h)
    have HF : Hid (joined p seen ⟨q, ⟨d, n⟩⟩ = false) := by show _ = _; unfold joined; rw [decide_eq_false hq]; rfl
    clear hq
    go_enter Tryz.func227, Tryz.ntmps227
    go_wp2_with fail
    go_ret
    exact ⟨by rw [HF.out]; rfl, HB.out⟩
/-- The first that is taken away. -/
def FirstAt (l : List LMark) (p : ByteArray) (seen : List LDot) (r : Int) : Prop :=
  (r = -1 ∧ ∀ x ∈ l, joined p seen x = false) ∨ (∃ k, ∃ hk : k < l.length, r = (k : Int) ∧ joined p seen l[k] = true ∧ ∀ j (hj : j < l.length), j < k → joined p seen l[j] = false)
def FirstLoop (w : World) (B : Nat) (l : List LMark) (p : ByteArray) (seen : List LDot) (i : Value) (wr : World) : Prop :=
  ∃ k : Nat, k ≤ l.length ∧ i = .int .i64 k ∧ Hid (Below w.heap.size w wr) ∧ Hid (∀ j (hj : j < l.length), j < k → joined p seen l[j] = false)
def FirstPost (w : World) (l : List LMark) (p : ByteArray) (seen : List LDot) (e : Ending) (w' : World) : Prop := ∃ r : Int, e = .returned (.int .i64 r) ∧ FirstAt l p seen r ∧ Below w.heap.size w w'
set_option maxRecDepth 100000 in
set_option maxHeartbeats 2000000 in
theorem first_any (w : World) (B : Nat) (p : ByteArray) (seen : List LDot) (b4 b5 : Nat) (A2 : Option Addr) (c2 : Nat) (h : Env w B p seen b4 b5 A2 c2) (hB : B ≤ w.heap.size)
    (A : Option Addr) (c : Nat) (l : List LMark) (hr : Reads w w.heap.size 3 A l.length (mcells l)) (hn : l.length ≤ 1000) :
    Calls Tryz.prog 249 #[.slice A l.length c, .func (Fn.func 227) #[] #[.pointer (some ⟨b4, 0, none⟩), .pointer (some ⟨b5, 0, none⟩)]] w (FirstPost w l p seen) := by
  have HR := Lib.hid hr
  have HF := Lib.hid (fun W (hb : Below w.heap.size w W) m => fn_any W B p seen b4 b5 A2 c2 m (h.below (hb.mono hB)) (Nat.le_trans hB hb.size))
  clear h hr
  go_enter Tryz.func249, Tryz.ntmps249
  go_wp2_with fail
  go_loopw [8] (fun i wr => FirstLoop w B l p seen i wr) (fun i _ => l.length - (intOf i).toNat)
  case atStart => exact ⟨0, by omega, rfl, Below.refl _ _, fun j hj h => by omega⟩
  case round =>
    obtain ⟨k, hk, rfl, HBr, HN⟩ := hrel
    by_cases hkn : k < l.length
    · obtain ⟨ad, rfl, hb, c0, c1, c2⟩ := (HR.out.below HBr.out).mark hkn
      have hlt : (k : Int) < (l.length : Int) := by omega
      have hk0 : (0 : Int) ≤ (k : Int) := by omega
      have HX : Hid (joined p seen l[k] = false → ∀ j (hj : j < l.length), j < k + 1 → joined p seen l[j] = false) := fun hne j hj hjk => by
        rcases Nat.eq_or_lt_of_le (Nat.le_of_lt_succ hjk) with h | h
        · subst h; exact hne
        · exact HN.out j hj h
      have HY : Hid (joined p seen l[k] = true → FirstAt l p seen k) := fun he => .inr ⟨k, hkn, rfl, he, HN.out⟩
      generalize l[k] = x at c0 c1 c2 HX HY
      obtain ⟨q, ⟨d, n⟩⟩ := x
      simp only at c0 c1 c2
      cases hj : joined p seen ⟨q, ⟨d, n⟩⟩ with
      | true =>
        have HT := Lib.hid (HY.out hj)
        have HJ := Lib.hid hj
        clear hj
        go_wp2_with fail
        refine (HF.out _ HBr.out ⟨q, ⟨d, n⟩⟩).mono ?_
        rintro e w1 ⟨rfl, hb1⟩
        rw [HJ.out]
        have HB1 := Lib.hid (HBr.out.trans (hb1.mono HBr.out.size))
        clear hb1
        go_wp2_with fail
        go_ret
        exact ⟨(k : Int), rfl, HT.out, HB1.out⟩
      | false =>
        have HT := Lib.hid (HX.out hj)
        have HJ := Lib.hid hj
        clear hj
        go_wp2_with fail
        refine (HF.out _ HBr.out ⟨q, ⟨d, n⟩⟩).mono ?_
        rintro e w1 ⟨rfl, hb1⟩
        rw [HJ.out]
        have HB1 := Lib.hid (HBr.out.trans (hb1.mono HBr.out.size))
        clear hb1
        go_wp2_with fail
        go_roundw
        case rel => exact ⟨k + 1, by omega, by go_num, HB1, HT⟩
        case measure => simp [intOf]; omega
    · have hd : decide ((k : Int) < (l.length : Int)) = false := by simp; omega
      have HT : Hid (FirstAt l p seen (-1)) := .inl ⟨rfl, fun x hx => by
        obtain ⟨j, hj, rfl⟩ := List.getElem_of_mem hx
        exact HN.out j hj (by omega)⟩
      go_wp2_with fail
      go_ret
      exact ⟨-1, rfl, HT.out, HBr.out⟩
end MarkJoin
end Go.Proofs.YthfbjfocmnikaaaGreatDoor

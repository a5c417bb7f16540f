/- The document's Dot, less, before, Mark, walked. Conditions: places that an int may count. -/
import Derived.Test.YteiadcdaleckjaaDoorMarkLaw
import Derived.Test.YteiadcdaleckjaaDoorRefPlace
namespace Go.Proofs.YteiadcdaleckjaaDoor
open Go.RowKit
set_option linter.unusedVariables false
set_option maxRecDepth 100000 in
theorem rdot_any (w : World) (d : LDot) : Calls Tryd.prog 40 #[.agg #[.int .i64 d.who, .int .i64 d.n]] w (CheckPost w (.int .i64 (dotErr d))) := by
  obtain ⟨who, n⟩ := d
  have HB : Hid (Below w.heap.size w (w.alloc (.cells #[.int .i64 who, .int .i64 n] 69))) := (Below.refl _ _).alloc (Nat.le_refl _) _
  by_cases h : 1 ≤ who ∧ who ≤ 8 ∧ 1 ≤ n ∧ n ≤ 9999
  · have HF : Hid (dotErr ⟨who, n⟩ = 0) := if_pos h
    obtain ⟨h1, h2, h3, h4⟩ := h
    go_enter Tryd.func40, Tryd.ntmps40
    go_wp2_with fail
    go_ret
    exact ⟨by rw [HF.out]; rfl, HB.out⟩
  · have HF : Hid (dotErr ⟨who, n⟩ = 1) := if_neg h
    by_cases h1 : who < 1
    · clear h
      go_enter Tryd.func40, Tryd.ntmps40
      go_wp2_with fail
      go_ret
      exact ⟨by rw [HF.out]; rfl, HB.out⟩
    by_cases h2 : 8 < who
    · clear h
      go_enter Tryd.func40, Tryd.ntmps40
      go_wp2_with fail
      go_ret
      exact ⟨by rw [HF.out]; rfl, HB.out⟩
    by_cases h3 : n < 1
    · clear h
      go_enter Tryd.func40, Tryd.ntmps40
      go_wp2_with fail
      go_ret
      exact ⟨by rw [HF.out]; rfl, HB.out⟩
    have h4 : 9999 < n := by omega
    clear h
    go_enter Tryd.func40, Tryd.ntmps40
    go_wp2_with fail
    go_ret
    exact ⟨by rw [HF.out]; rfl, HB.out⟩
def ltDb (a b : LDot) : Bool := decide (ordD a b < 0)
theorem ltDb_iff {a b : LDot} : ltDb a b = true ↔ ltD a b := by unfold ltDb; rw [decide_eq_true_iff, ordD_lt]
set_option maxRecDepth 100000 in
theorem rless_any (w : World) (a b : LDot) : Calls Tryd.prog 41 #[.agg #[.int .i64 a.who, .int .i64 a.n], .agg #[.int .i64 b.who, .int .i64 b.n]] w (CheckPost w (.bool (ltDb a b))) := by
  obtain ⟨p, d⟩ := a
  obtain ⟨q, e⟩ := b
  have HB : Hid (Below w.heap.size w ((w.alloc (.cells #[.int .i64 p, .int .i64 d] 69)).alloc (.cells #[.int .i64 q, .int .i64 e] 69))) := ((Below.refl _ _).alloc (Nat.le_refl _) _).alloc (by simp) _
  have HI : Hid (ltDb ⟨p, d⟩ ⟨q, e⟩ = true ↔ p < q ∨ (p = q ∧ d < e)) := ltDb_iff
  by_cases h1 : p < q
  · have HF : Hid (ltDb ⟨p, d⟩ ⟨q, e⟩ = true) := HI.out.2 (.inl h1)
    have g1 : decide (p < q) = true := decide_eq_true h1
    have g2 : (p == q) = false := by rw [beq_eq_false_iff_ne]; omega
    go_enter Tryd.func41, Tryd.ntmps41
    go_wp2_with fail
    go_ret
    exact ⟨by rw [HF.out]; rfl, HB.out⟩
  · have g1 : decide (p < q) = false := decide_eq_false h1
    by_cases h2 : p = q
    · have g2 : (p == q) = true := by rw [beq_iff_eq]; exact h2
      have HF : Hid (ltDb ⟨p, d⟩ ⟨q, e⟩ = decide (d < e)) := by
        show _ = _
        rw [Bool.eq_iff_iff, HI.out, decide_eq_true_iff]; omega
      clear h2
      go_enter Tryd.func41, Tryd.ntmps41
      go_wp2_with fail
      go_ret
      exact ⟨by rw [HF.out]; rfl, HB.out⟩
    · have g2 : (p == q) = false := by rw [beq_eq_false_iff_ne]; exact h2
      have HF : Hid (ltDb ⟨p, d⟩ ⟨q, e⟩ = false) := by
        show _ = _
        rw [Bool.eq_false_iff]; intro hh; have := HI.out.1 hh; omega
      clear h2
      go_enter Tryd.func41, Tryd.ntmps41
      go_wp2_with fail
      go_ret
      exact ⟨by rw [HF.out]; rfl, HB.out⟩
set_option maxRecDepth 100000 in
set_option maxHeartbeats 1000000 in
theorem rbefore_any (w : World) (a b : LMark) : Calls Tryd.prog 28 #[.agg #[.string a.place, .int .i64 a.dot.who, .int .i64 a.dot.n], .agg #[.string b.place, .int .i64 b.dot.who, .int .i64 b.dot.n]] w (CheckPost w (.bool (ltMb a b))) := by
  obtain ⟨p, ⟨d, n⟩⟩ := a
  obtain ⟨q, ⟨e, m⟩⟩ := b
  have HL := Lib.hid (fun w => rless_any w ⟨d, n⟩ ⟨e, m⟩)
  have HB : Hid (Below w.heap.size w ((w.alloc (.cells #[.string p, .int .i64 d, .int .i64 n] 71)).alloc (.cells #[.string q, .int .i64 e, .int .i64 m] 71))) := ((Below.refl _ _).alloc (Nat.le_refl _) _).alloc (by simp) _
  have HI : Hid (ltMb ⟨p, ⟨d, n⟩⟩ ⟨q, ⟨e, m⟩⟩ = true ↔ lt p q = true ∨ (p = q ∧ ltD ⟨d, n⟩ ⟨e, m⟩)) := ltMb_iff
  by_cases hp : p = q
  · have HF : Hid (ltMb ⟨p, ⟨d, n⟩⟩ ⟨q, ⟨e, m⟩⟩ = ltDb ⟨d, n⟩ ⟨e, m⟩) := by
      show _ = _
      rw [Bool.eq_iff_iff, HI.out, ltDb_iff]
      constructor
      · rintro (h | ⟨_, h⟩)
        · rw [hp, lt_irrefl] at h; cases h
        · exact h
      · exact fun h => .inr ⟨hp, h⟩
    have g0 : (p.toList == q.toList) = true := by rw [hp]; simp
    have g1 : (p.toList != q.toList) = false := by rw [hp]; simp
    clear hp
    go_enter Tryd.func28, Tryd.ntmps28
    go_wp2_with fail
    refine (HL.out _).mono ?_
    rintro e1 w1 ⟨rfl, hb1⟩
    have HB1 := Lib.hid (HB.out.trans (hb1.mono HB.out.size))
    clear hb1
    go_wp2_with fail
    go_ret
    exact ⟨by rw [HF.out]; rfl, HB1.out⟩
  · have HF : Hid (ltMb ⟨p, ⟨d, n⟩⟩ ⟨q, ⟨e, m⟩⟩ = Op.bytesLess p.toList q.toList) := by
      show _ = _
      rw [Bool.eq_iff_iff, HI.out]
      constructor
      · rintro (h | ⟨h, _⟩)
        · exact h
        · exact absurd h hp
      · exact fun h => .inl h
    have g0 : (p.toList == q.toList) = false := by rw [beq_eq_false_iff_ne]; exact fun h => hp (tl_inj h)
    have g1 : (p.toList != q.toList) = true := by rw [bne_iff_ne]; exact fun h => hp (tl_inj h)
    clear hp
    go_enter Tryd.func28, Tryd.ntmps28
    go_wp2_with fail
    go_ret
    exact ⟨by rw [HF.out]; rfl, HB.out⟩
set_option maxRecDepth 100000 in
set_option maxHeartbeats 1000000 in
theorem rmark_any (w : World) (m : LMark) (hp : m.place.size ≤ 9223372036854775807) : Calls Tryd.prog 27 #[.agg #[.string m.place, .int .i64 m.dot.who, .int .i64 m.dot.n]] w (CheckPost w (.int .i64 (markErr m))) := by
  obtain ⟨p, ⟨d, n⟩⟩ := m
  have HP := Lib.hid (fun w => rplace_any w p hp)
  have HD := Lib.hid (fun w => rdot_any w ⟨d, n⟩)
  have HB : Hid (Below w.heap.size w (w.alloc (.cells #[.string p, .int .i64 d, .int .i64 n] 71))) := (Below.refl _ _).alloc (Nat.le_refl _) _
  clear hp
  by_cases he : placeErr p = 0
  · have g0 : (placeErr p == 0) = true := by simp [he]
    have HE := Lib.hid he
    have HF : Hid (markErr ⟨p, ⟨d, n⟩⟩ = dotErr ⟨d, n⟩) := if_neg (fun h => h he)
    clear he
    go_enter Tryd.func27, Tryd.ntmps27
    go_wp2_with fail
    refine (HP.out _).mono ?_
    rintro e w1 ⟨rfl, rfl⟩
    go_wp2_with fail
    refine (HD.out _).mono ?_
    rintro e w2 ⟨rfl, hb2⟩
    have HB2 := Lib.hid (HB.out.trans (hb2.mono HB.out.size))
    clear hb2
    go_wp2_with fail
    go_ret
    exact ⟨by rw [HF.out]; rfl, HB2.out⟩
  · have g0 : (placeErr p == 0) = false := by simp [he]
    have HF : Hid (markErr ⟨p, ⟨d, n⟩⟩ = placeErr p) := if_pos he
    clear he
    go_enter Tryd.func27, Tryd.ntmps27
    go_wp2_with fail
    refine (HP.out _).mono ?_
    rintro e w1 ⟨rfl, rfl⟩
    go_wp2_with fail
    go_ret
    exact ⟨by rw [HF.out]; rfl, HB.out⟩
end Go.Proofs.YteiadcdaleckjaaDoor

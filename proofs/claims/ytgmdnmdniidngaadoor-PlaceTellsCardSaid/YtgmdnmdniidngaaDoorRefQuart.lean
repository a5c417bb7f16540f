/- leafref1.begins, fits, may, walked. Conditions: the texts are short. -/
import Derived.Test.YtgmdnmdniidngaaDoorQuartLaw
import Derived.Test.YtgmdnmdniidngaaDoorRefPlace
namespace Go.Proofs.YtgmdnmdniidngaaDoor
open Go.RowKit
set_option linter.unusedVariables false
theorem emp_iff (b : ByteArray) : b.toList.isEmpty = decide (b.toList = []) := by
  cases b.toList <;> simp
/-- Three ways two texts stand. -/
theorem three (x y : List UInt8) : (Op.bytesLess x y = true ∧ Op.bytesLess y x = false ∧ (y == x) = false) ∨ (Op.bytesLess x y = false ∧ Op.bytesLess y x = true ∧ (y == x) = false) ∨ (Op.bytesLess x y = false ∧ Op.bytesLess y x = false ∧ (y == x) = true) := by
  have total : ∀ (x y : List UInt8), Op.bytesLess x y = false → Op.bytesLess y x = false → y = x := by
    intro x
    induction x with
    | nil => intro y h1 h2; cases y with
      | nil => rfl
      | cons c t => simp [Op.bytesLess] at h1
    | cons d u ih =>
      intro y h1 h2
      cases y with
      | nil => simp [Op.bytesLess] at h2
      | cons c t =>
        simp only [Op.bytesLess] at h1 h2
        by_cases hdc : d = c
        · subst hdc
          simp at h1 h2
          rw [ih t h1 h2]
        · exfalso
          have hc : ¬ c = d := fun h => hdc h.symm
          rcases Nat.lt_trichotomy d.toNat c.toNat with h | h | h
          · have : d < c := h
            simp [this] at h1
          · exact hdc (UInt8.toNat_inj.1 h)
          · have : c < d := h
            simp [this] at h2
  cases h1 : Op.bytesLess x y with
  | true =>
    refine .inl ⟨rfl, less_asymm _ _ h1, ?_⟩
    rw [beq_eq_false_iff_ne]
    intro h; subst h
    rw [less_irrefl] at h1; cases h1
  | false =>
    cases h2 : Op.bytesLess y x with
    | true =>
      refine .inr (.inl ⟨rfl, rfl, ?_⟩)
      rw [beq_eq_false_iff_ne]
      intro h; subst h
      rw [less_irrefl] at h2; cases h2
    | false => exact .inr (.inr ⟨rfl, rfl, by rw [beq_iff_eq]; exact total _ _ h1 h2⟩)
theorem ext_take (t : ByteArray) (n : Nat) (h : n ≤ t.size) : (t.extract 0 n).toList = t.toList.take n := by
  rw [ByteArray.toList_eq, ByteArray.toList_eq, ByteArray.data_extract, Array.toList_extract]
  simp
set_option maxRecDepth 100000 in
theorem rbegins_any (w : World) (s t : ByteArray) (hs : s.size ≤ 1000000) (ht : t.size ≤ 1000000) : Calls Tryd.prog 61 #[.string s, .string t] w (fun e w' => e = .returned (.bool (begB s.toList t.toList)) ∧ w' = w) := by
  have hl1 := toList_len s
  have hl2 := toList_len t
  by_cases h : s.size ≤ t.size
  · have HE : Hid (begB s.toList t.toList = ((t.extract 0 s.size).toList == s.toList)) := by
      show _ = _
      unfold begB
      rw [ext_take _ _ h, hl1, hl2, decide_eq_true h, Bool.true_and, Bool.eq_iff_iff, decide_eq_true_iff, beq_iff_eq]
    have h1 : (s.size : Int) ≤ (t.size : Int) := by omega
    have h2 : (0 : Int) ≤ (s.size : Int) := by omega
    have h3 : (s.size : Int).toNat = s.size := by omega
    clear hl1 hl2
    go_enter Tryd.func61, Tryd.ntmps61
    go_wp2_with fail
    go_ret
    exact ⟨by rw [HE.out]; rfl, rfl⟩
  · have HE : Hid (begB s.toList t.toList = false) := by
      show _ = _
      unfold begB
      rw [decide_eq_false (by omega)]; rfl
    have h1 : ¬ (s.size : Int) ≤ (t.size : Int) := by omega
    clear hl1 hl2
    go_enter Tryd.func61, Tryd.ntmps61
    go_wp2_with fail
    go_ret
    exact ⟨by rw [HE.out]; rfl, rfl⟩
set_option maxRecDepth 100000 in
theorem rfits_any (w : World) (s a b : ByteArray) (hs : s.size ≤ 1000000) (hb : b.size ≤ 1000000) : Calls Tryd.prog 60 #[.string s, .string a, .string b] w (fun e w' => e = .returned (.bool (fitB s.toList a.toList b.toList)) ∧ w' = w) := by
  have HB := Lib.hid (rbegins_any w s b hs hb)
  have HF : Hid (fitB s.toList a.toList b.toList = (Op.bytesLess a.toList s.toList && (b.toList.isEmpty || (Op.bytesLess s.toList b.toList && !begB s.toList b.toList)))) := by
    show _ = _
    unfold fitB
    rw [emp_iff]
  generalize begB s.toList b.toList = bb at *
  have key : ∀ (x1 x2 x3 : Bool), Op.bytesLess a.toList s.toList = x1 → b.toList.isEmpty = x2 → Op.bytesLess s.toList b.toList = x3 → Calls Tryd.prog 60 #[.string s, .string a, .string b] w (fun e w' => e = .returned (.bool (x1 && (x2 || (x3 && !bb)))) ∧ w' = w) := by
    intro x1 x2 x3 e1 e2 e3
    rcases three a.toList s.toList with ⟨f1, f2, f3⟩ | ⟨f1, f2, f3⟩ | ⟨f1, f2, f3⟩ <;> rw [e1] at f1 <;> subst f1 <;> cases x2 <;> cases x3 <;> cases bb
    all_goals
      go_enter Tryd.func60, Tryd.ntmps60
      go_wp2_with fail
      refine HB.out.mono ?_
      rintro e w1 ⟨rfl, hw⟩
      obtain rfl := hw.symm
      go_wp2_with fail
      go_ret
      exact ⟨rfl, rfl⟩
  have := key _ _ _ rfl rfl rfl
  rw [← HF.out] at this
  exact this
end Go.Proofs.YtgmdnmdniidngaaDoor

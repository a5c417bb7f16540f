/- 2 texts in one: each says ahead of itself what is proved, and its conditions. -/
import Derived.Test.YtgmdnmdniidngaaDoorQuartLaw
import Derived.Test.YtgmdnmdniidngaaDoorRefPlace
/- leafref1.begins, fits, may, walked. Conditions: the texts are short. -/
namespace Go.Proofs.YtgmdnmdniidngaaDoor
open Go.RowKit
set_option linter.unusedVariables false
theorem emp_iff (b : ByteArray) : b.toList.isEmpty = decide (b.toList = []) := by
  cases b.toList <;> simp
/-- Three ways two texts stand. -/
theorem three (x y : List UInt8) : (Op.bytesLess x y = true ∧ Op.bytesLess y x = false ∧ (y == x) = false) ∨ (Op.bytesLess x y = false ∧ Op.bytesLess y x = true ∧ (y == x) = false) ∨ (Op.bytesLess x y = false ∧ Op.bytesLess y x = false ∧ (y == x) = true) := by
  have total : ∀ (x y : List UInt8), Op.bytesLess x y = false → Op.bytesLess y x = false → y = x := by
    intro x
    induction x with
    | nil => intro y h1 h2; cases y with
      | nil => rfl
      | cons c t => simp [Op.bytesLess] at h1
    | cons d u ih =>
      intro y h1 h2
      cases y with
      | nil => simp [Op.bytesLess] at h2
      | cons c t =>
        simp only [Op.bytesLess] at h1 h2
        by_cases hdc : d = c
        · subst hdc
          simp at h1 h2
          rw [ih t h1 h2]
        · exfalso
          have hc : ¬ c = d := fun h => hdc h.symm
          rcases Nat.lt_trichotomy d.toNat c.toNat with h | h | h
          · have : d < c := h
            simp [this] at h1
          · exact hdc (UInt8.toNat_inj.1 h)
          · have : c < d := h
            simp [this] at h2
  cases h1 : Op.bytesLess x y with
  | true =>
    refine .inl ⟨rfl, less_asymm _ _ h1, ?_⟩
    rw [beq_eq_false_iff_ne]
    intro h; subst h
    rw [less_irrefl] at h1; cases h1
  | false =>
    cases h2 : Op.bytesLess y x with
    | true =>
      refine .inr (.inl ⟨rfl, rfl, ?_⟩)
      rw [beq_eq_false_iff_ne]
      intro h; subst h
      rw [less_irrefl] at h2; cases h2
    | false => exact .inr (.inr ⟨rfl, rfl, by rw [beq_iff_eq]; exact total _ _ h1 h2⟩)
theorem ext_take (t : ByteArray) (n : Nat) (h : n ≤ t.size) : (t.extract 0 n).toList = t.toList.take n := by
  rw [ByteArray.toList_eq, ByteArray.toList_eq, ByteArray.data_extract, Array.toList_extract]
  simp
set_option maxRecDepth 100000 in
theorem rbegins_any (w : World) (s t : ByteArray) (hs : s.size ≤ 1000000) (ht : t.size ≤ 1000000) : Calls Tryd.prog 61 #[.string s, .string t] w (fun e w' => e = .returned (.bool (begB s.toList t.toList)) ∧ w' = w) := by
  have hl1 := toList_len s
  have hl2 := toList_len t
  by_cases h : s.size ≤ t.size
  · have HE : Hid (begB s.toList t.toList = ((t.extract 0 s.size).toList == s.toList)) := by
      show _ = _
      unfold begB
      rw [ext_take _ _ h, hl1, hl2, decide_eq_true h, Bool.true_and, Bool.eq_iff_iff, decide_eq_true_iff, beq_iff_eq]
    have h1 : (s.size : Int) ≤ (t.size : Int) := by omega
    have h2 : (0 : Int) ≤ (s.size : Int) := by omega
    have h3 : (s.size : Int).toNat = s.size := by omega
    clear hl1 hl2
    go_enter Tryd.func61, Tryd.ntmps61
    go_wp2_with fail
    go_ret
    exact ⟨by rw [HE.out]; rfl, rfl⟩
  · have HE : Hid (begB s.toList t.toList = false) := by
      show _ = _
      unfold begB
      rw [decide_eq_false (by omega)]; rfl
    have h1 : ¬ (s.size : Int) ≤ (t.size : Int) := by omega
    clear hl1 hl2
    go_enter Tryd.func61, Tryd.ntmps61
    go_wp2_with fail
    go_ret
    exact ⟨by rw [HE.out]; rfl, rfl⟩
set_option maxRecDepth 100000 in
theorem rfits_any (w : World) (s a b : ByteArray) (hs : s.size ≤ 1000000) (hb : b.size ≤ 1000000) : Calls Tryd.prog 60 #[.string s, .string a, .string b] w (fun e w' => e = .returned (.bool (fitB s.toList a.toList b.toList)) ∧ w' = w) := by
  have HB := Lib.hid (rbegins_any w s b hs hb)
  have HF : Hid (fitB s.toList a.toList b.toList = (Op.bytesLess a.toList s.toList && (b.toList.isEmpty || (Op.bytesLess s.toList b.toList && !begB s.toList b.toList)))) := by
    show _ = _
    unfold fitB
    rw [emp_iff]
  generalize begB s.toList b.toList = bb at *
  have key : ∀ (x1 x2 x3 : Bool), Op.bytesLess a.toList s.toList = x1 → b.toList.isEmpty = x2 → Op.bytesLess s.toList b.toList = x3 → Calls Tryd.prog 60 #[.string s, .string a, .string b] w (fun e w' => e = .returned (.bool (x1 && (x2 || (x3 && !bb)))) ∧ w' = w) := by
    intro x1 x2 x3 e1 e2 e3
    rcases three a.toList s.toList with ⟨f1, f2, f3⟩ | ⟨f1, f2, f3⟩ | ⟨f1, f2, f3⟩ <;> rw [e1] at f1 <;> subst f1 <;> cases x2 <;> cases x3 <;> cases bb
    all_goals
      go_enter Tryd.func60, Tryd.ntmps60
      go_wp2_with fail
      refine HB.out.mono ?_
      rintro e w1 ⟨rfl, hw⟩
      obtain rfl := hw.symm
      go_wp2_with fail
      go_ret
      exact ⟨rfl, rfl⟩
  have := key _ _ _ rfl rfl rfl
  rw [← HF.out] at this
  exact this
end Go.Proofs.YtgmdnmdniidngaaDoor
/- leafref1.may, walked. Conditions: the texts are short. -/
namespace Go.Proofs.YtgmdnmdniidngaaDoor
open Go.RowKit
set_option linter.unusedVariables false
theorem app_list (x y : ByteArray) : (x ++ y).toList = x.toList ++ y.toList := by
  simp [ByteArray.toList_eq]
def PadLoop (w : World) (s : ByteArray) (r : Nat) (v9 v10 : Value) (wr : World) : Prop :=
  ∃ (j : Nat) (lo hi : ByteArray), j ≤ r ∧ v9 = .string lo ∧ v10 = .string hi ∧ Hid (lo.toList = s.toList ++ List.replicate j 97) ∧ Hid (hi.toList = s.toList ++ List.replicate j 122) ∧ lo.size = s.size + j ∧ Hid (wr = w)
theorem pad_next {s x : ByteArray} {c : UInt8} {j : Nat} (h : x.toList = s.toList ++ List.replicate j c) : (x ++ ⟨#[c]⟩).toList = s.toList ++ List.replicate (j + 1) c := by
  rw [app_list, h, List.replicate_succ', List.append_assoc]
  congr 1
  simp [ByteArray.toList_eq]
theorem size_of {x : ByteArray} {l : List UInt8} (h : x.toList = l) : x.size = l.length := by rw [← h, toList_len]
set_option maxRecDepth 100000 in
set_option maxHeartbeats 2000000 in
theorem rmay_any (w : World) (s a b : ByteArray) (r : Nat) (hn : s.size + r ≤ 11) : Calls Tryd.prog 59 #[.string s, .int .i64 ((s.size + r : Nat) : Int), .string a, .string b] w (fun e w' => e = .returned (.bool (mayB s.toList (s.size + r) a.toList b.toList)) ∧ w' = w) := by
  generalize hN : s.size + r = N at *
  have HN := Lib.hid hN
  clear hN
  go_enter Tryd.func59, Tryd.ntmps59
  go_wp2_with fail
  go_loopw [9, 10] (fun v9 v10 wr => PadLoop w s r v9 v10 wr) (fun v9 _ _ => match v9 with | .string x => 11 - x.size | _ => 0)
  case atStart => exact ⟨0, s, s, by omega, rfl, rfl, by show _ = _; simp, by show _ = _; simp, rfl, rfl⟩
  case round =>
    obtain ⟨j, lo, hi, hj, rfl, rfl, HLO, HHI, hsz, HW⟩ := hrel
    have HSZ := Lib.hid hsz
    have h2 : hi.size = s.size + j := by rw [size_of HHI.out]; simp [toList_len]
    have HS2 := Lib.hid h2
    clear h2 hsz
    by_cases hjr : j < r
    · have k1 : (lo.size : Int) < (N : Int) := by have := HSZ.out; have := HN.out; omega
      have hc1 : ∀ W, (Op.stringOp .add lo ⟨#[97]⟩).run Tryd.prog W = .ok (.string (lo ++ ⟨#[97]⟩)) W := fun W => run_string_add_sum _ _ _ (by have := HSZ.out; have := HN.out; show lo.size + 1 ≤ _; omega)
      have hc2 : ∀ W, (Op.stringOp .add hi ⟨#[122]⟩).run Tryd.prog W = .ok (.string (hi ++ ⟨#[122]⟩)) W := fun W => run_string_add_sum _ _ _ (by have := HS2.out; have := HN.out; show hi.size + 1 ≤ _; omega)
      go_wp2_with fail
      go_roundw
      case rel => exact ⟨j + 1, lo ++ (⟨#[97]⟩ : ByteArray), hi ++ (⟨#[122]⟩ : ByteArray), by omega, rfl, rfl, Lib.hid (pad_next HLO.out), Lib.hid (pad_next HHI.out), by rw [size_of (pad_next HLO.out)]; simp [toList_len], HW⟩
      case measure =>
        have h3 : (lo ++ ⟨#[97]⟩ : ByteArray).size = lo.size + 1 := by rw [size_of (pad_next HLO.out), HSZ.out]; simp [toList_len]; omega
        show 11 - (lo ++ ⟨#[97]⟩ : ByteArray).size < 11 - lo.size
        have := HSZ.out; have := HN.out; omega
    · have k1 : ¬ (lo.size : Int) < (N : Int) := by have := HSZ.out; have := HN.out; omega
      have hjr' : j = r := by omega
      have HF : Hid (mayB s.toList N a.toList b.toList = (Op.bytesLess a.toList hi.toList && (b.toList.isEmpty || Op.bytesLess lo.toList b.toList))) := by
        show _ = _
        unfold mayB padL
        rw [emp_iff, HLO.out, HHI.out, toList_len, ← HN.out, hjr', show s.size + r - s.size = r by omega]
      rw [HW.out]
      clear hjr hjr' HLO HHI HW HSZ HS2
      obtain ⟨x1, e1⟩ : ∃ x, Op.bytesLess a.toList hi.toList = x := ⟨_, rfl⟩
      obtain ⟨x2, e2⟩ : ∃ x, b.toList.isEmpty = x := ⟨_, rfl⟩
      obtain ⟨x3, e3⟩ : ∃ x, Op.bytesLess lo.toList b.toList = x := ⟨_, rfl⟩
      rw [e1, e2, e3] at HF
      rcases three a.toList hi.toList with ⟨f1, f2, f3⟩ | ⟨f1, f2, f3⟩ | ⟨f1, f2, f3⟩ <;> rw [e1] at f1 <;> subst f1 <;> cases x2 <;> cases x3
      all_goals
        go_wp2_with fail
        go_ret
        exact ⟨by rw [HF.out]; rfl, rfl⟩
end Go.Proofs.YtgmdnmdniidngaaDoor

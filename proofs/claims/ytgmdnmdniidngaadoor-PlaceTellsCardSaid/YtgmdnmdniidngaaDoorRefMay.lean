/- leafref1.may, walked. Conditions: the texts are short. -/
import Derived.Test.YtgmdnmdniidngaaDoorRefQuart
namespace Go.Proofs.YtgmdnmdniidngaaDoor
open Go.RowKit
set_option linter.unusedVariables false
theorem app_list (x y : ByteArray) : (x ++ y).toList = x.toList ++ y.toList := by
  simp [ByteArray.toList_eq]
def PadLoop (w : World) (s : ByteArray) (r : Nat) (v9 v10 : Value) (wr : World) : Prop :=
  ∃ (j : Nat) (lo hi : ByteArray), j ≤ r ∧ v9 = .string lo ∧ v10 = .string hi ∧ Hid (lo.toList = s.toList ++ List.replicate j 97) ∧ Hid (hi.toList = s.toList ++ List.replicate j 122) ∧ lo.size = s.size + j ∧ Hid (wr = w)
theorem pad_next {s x : ByteArray} {c : UInt8} {j : Nat} (h : x.toList = s.toList ++ List.replicate j c) : (x ++ ⟨#[c]⟩).toList = s.toList ++ List.replicate (j + 1) c := by
  rw [app_list, h, List.replicate_succ', List.append_assoc]
  congr 1
  simp [ByteArray.toList_eq]
theorem size_of {x : ByteArray} {l : List UInt8} (h : x.toList = l) : x.size = l.length := by rw [← h, toList_len]
set_option maxRecDepth 100000 in
set_option maxHeartbeats 2000000 in
theorem rmay_any (w : World) (s a b : ByteArray) (r : Nat) (hn : s.size + r ≤ 11) : Calls Tryd.prog 59 #[.string s, .int .i64 ((s.size + r : Nat) : Int), .string a, .string b] w (fun e w' => e = .returned (.bool (mayB s.toList (s.size + r) a.toList b.toList)) ∧ w' = w) := by
  generalize hN : s.size + r = N at *
  have HN := Lib.hid hN
  clear hN
  go_enter Tryd.func59, Tryd.ntmps59
  go_wp2_with fail
  go_loopw [9, 10] (fun v9 v10 wr => PadLoop w s r v9 v10 wr) (fun v9 _ _ => match v9 with | .string x => 11 - x.size | _ => 0)
  case atStart => exact ⟨0, s, s, by omega, rfl, rfl, by show _ = _; simp, by show _ = _; simp, rfl, rfl⟩
  case round =>
    obtain ⟨j, lo, hi, hj, rfl, rfl, HLO, HHI, hsz, HW⟩ := hrel
    have HSZ := Lib.hid hsz
    have h2 : hi.size = s.size + j := by rw [size_of HHI.out]; simp [toList_len]
    have HS2 := Lib.hid h2
    clear h2 hsz
    by_cases hjr : j < r
    · have k1 : (lo.size : Int) < (N : Int) := by have := HSZ.out; have := HN.out; omega
      have hc1 : ∀ W, (Op.stringOp .add lo ⟨#[97]⟩).run Tryd.prog W = .ok (.string (lo ++ ⟨#[97]⟩)) W := fun W => run_string_add_sum _ _ _ (by have := HSZ.out; have := HN.out; show lo.size + 1 ≤ _; omega)
      have hc2 : ∀ W, (Op.stringOp .add hi ⟨#[122]⟩).run Tryd.prog W = .ok (.string (hi ++ ⟨#[122]⟩)) W := fun W => run_string_add_sum _ _ _ (by have := HS2.out; have := HN.out; show hi.size + 1 ≤ _; omega)
      go_wp2_with fail
      go_roundw
      case rel => exact ⟨j + 1, lo ++ (⟨#[97]⟩ : ByteArray), hi ++ (⟨#[122]⟩ : ByteArray), by omega, rfl, rfl, Lib.hid (pad_next HLO.out), Lib.hid (pad_next HHI.out), by rw [size_of (pad_next HLO.out)]; simp [toList_len], HW⟩
      case measure =>
        have h3 : (lo ++ ⟨#[97]⟩ : ByteArray).size = lo.size + 1 := by rw [size_of (pad_next HLO.out), HSZ.out]; simp [toList_len]; omega
        show 11 - (lo ++ ⟨#[97]⟩ : ByteArray).size < 11 - lo.size
        have := HSZ.out; have := HN.out; omega
    · have k1 : ¬ (lo.size : Int) < (N : Int) := by have := HSZ.out; have := HN.out; omega
      have hjr' : j = r := by omega
      have HF : Hid (mayB s.toList N a.toList b.toList = (Op.bytesLess a.toList hi.toList && (b.toList.isEmpty || Op.bytesLess lo.toList b.toList))) := by
        show _ = _
        unfold mayB padL
        rw [emp_iff, HLO.out, HHI.out, toList_len, ← HN.out, hjr', show s.size + r - s.size = r by omega]
      rw [HW.out]
      clear hjr hjr' HLO HHI HW HSZ HS2
      obtain ⟨x1, e1⟩ : ∃ x, Op.bytesLess a.toList hi.toList = x := ⟨_, rfl⟩
      obtain ⟨x2, e2⟩ : ∃ x, b.toList.isEmpty = x := ⟨_, rfl⟩
      obtain ⟨x3, e3⟩ : ∃ x, Op.bytesLess lo.toList b.toList = x := ⟨_, rfl⟩
      rw [e1, e2, e3] at HF
      rcases three a.toList hi.toList with ⟨f1, f2, f3⟩ | ⟨f1, f2, f3⟩ | ⟨f1, f2, f3⟩ <;> rw [e1] at f1 <;> subst f1 <;> cases x2 <;> cases x3
      all_goals
        go_wp2_with fail
        go_ret
        exact ⟨by rw [HF.out]; rfl, rfl⟩
end Go.Proofs.YtgmdnmdniidngaaDoor

/- 2 texts in one: each says ahead of itself what is proved, and its conditions. -/
import Derived.Test.YthfbjfocmnikaaaGreatDoorBook
import Derived.Test.YthfbjfocmnikaaaGreatDoorBookFind
/- The document's Place, Letter, Seen, walked. Conditions: a text that an int may count. -/
namespace Go.Proofs.YthfbjfocmnikaaaGreatDoor
open Go.RowKit
set_option linter.unusedVariables false
set_option maxRecDepth 100000 in
set_option maxHeartbeats 2000000 in
theorem rplace_any (w : World) (s : ByteArray) (hm : s.size ≤ 9223372036854775807) :
    Calls Tryz.prog 126 #[.string s] w fun e w' => e = .returned (.int .i64 (placeErr s)) ∧ w' = w := by
  by_cases hs : 12 < s.size
  · have HE : Hid (placeErr s = 4) := by show _ = _; unfold placeErr; rw [if_pos hs]
    go_enter Tryz.func126, Tryz.ntmps126
    go_wp2_with fail
    go_ret
    exact ⟨by rw [HE.out]; rfl, rfl⟩
  · have hs2 : s.size ≤ 12 := by omega
    go_enter Tryz.func126, Tryz.ntmps126
    go_wp2_with fail
    go_loop [4] (fun i => ∃ k : Nat, k ≤ s.size ∧ i = .int .i64 k ∧ Hid (∀ j, j < k → 97 ≤ byteAt s j ∧ byteAt s j ≤ 122)) (fun i => s.size - (intOf i).toNat)
    case atStart => exact ⟨0, Nat.zero_le _, rfl, fun j hj => absurd hj (by omega)⟩
    case round =>
      obtain ⟨k, hk, rfl, hall⟩ := hrel
      by_cases hlt : k < s.size
      · have hbk : byteAt s k = s[k].toNat := byteAt_in hlt
        have HBK := Lib.hid hbk
        have hk0 : (0 : Int) ≤ (k : Int) := by omega
        clear hbk
        by_cases h1 : 97 ≤ s[k].toNat
        · by_cases h2 : s[k].toNat ≤ 122
          · go_wp2
            go_round
            case rel => exact ⟨k + 1, by omega, by go_num, fun j hj => by
              rcases Nat.lt_or_ge j k with h | h
              · exact hall.out j h
              · obtain rfl : j = k := by omega
                rw [HBK.out]; exact ⟨h1, h2⟩⟩
            case measure => simp [intOf]; omega
          · go_wp2
            go_ret
            exact ⟨by rw [show placeErr s = 2 from by unfold placeErr; rw [if_neg (by omega), if_neg (fun h => h2 (by have := (h.1 k hlt).2; rw [HBK.out] at this; exact this))]]; rfl, rfl⟩
        · go_wp2
          go_ret
          exact ⟨by rw [show placeErr s = 2 from by unfold placeErr; rw [if_neg (by omega), if_neg (fun h => h1 (by have := (h.1 k hlt).1; rw [HBK.out] at this; exact this))]]; rfl, rfl⟩
      · obtain rfl : k = s.size := by omega
        have HL : Hid (Letters s) := fun i hi => hall.out i hi
        clear hall
        have bad : ¬ EndOk s → placeErr s = 2 := fun h => by unfold placeErr; rw [if_neg (by omega), if_neg (fun h' => h h'.2)]
        have good : EndOk s → placeErr s = 0 := fun h => by unfold placeErr; rw [if_neg (by omega), if_pos ⟨HL.out, h⟩]
        have BAD := Lib.hid bad
        have GOOD := Lib.hid good
        clear bad good
        by_cases a0 : s.size < 2
        · go_wp2
          go_ret
          exact ⟨by rw [BAD.out (fun h => by have := h.1; omega)]; rfl, rfl⟩
        · have e1 : byteAt s (s.size - 1) = (s[s.size - 1]'(by omega)).toNat := byteAt_in (by omega)
          have e2 : byteAt s (s.size - 2) = (s[s.size - 2]'(by omega)).toNat := byteAt_in (by omega)
          have E1 := Lib.hid e1
          have E2 := Lib.hid e2
          clear e1 e2
          by_cases a1 : (s[s.size - 1]'(by omega)).toNat < 98
          · go_wp2
            go_ret
            exact ⟨by rw [BAD.out (fun h => by have := h.2.1; rw [E1.out] at this; omega)]; rfl, rfl⟩
          · by_cases a2 : 105 < (s[s.size - 1]'(by omega)).toNat
            · go_wp2
              go_ret
              exact ⟨by rw [BAD.out (fun h => by have := h.2.2.1; rw [E1.out] at this; omega)]; rfl, rfl⟩
            · by_cases a3 : (s[s.size - 2]'(by omega)).toNat = 97
              · have a3' : (((s[s.size - 2]'(by omega)).toNat : Int) == 97) = true := by simp [a3]
                have A3 := Lib.hid a3
                clear a3
                go_wp2
                go_ret
                exact ⟨by rw [BAD.out (fun h => by have := h.2.2.2; rw [E2.out] at this; exact this A3.out)]; rfl, rfl⟩
              · have a3' : (((s[s.size - 2]'(by omega)).toNat : Int) == 97) = false := by simp; omega
                go_wp2
                go_ret
                exact ⟨by rw [GOOD.out ⟨by omega, by rw [E1.out]; omega, by rw [E1.out]; omega, by rw [E2.out]; exact a3⟩]; rfl, rfl⟩
theorem rletter_any (w : World) (n : Int) :
    Calls Tryz.prog 127 #[.int .i64 n] w fun e w' => e = .returned (.bool (letterB n)) ∧ w' = w := by
  by_cases h : 32 ≤ n
  · go_enter Tryz.func127, Tryz.ntmps127
    go_wp2
    go_ret
    exact ⟨by simp [h, letterB], rfl⟩
  · go_enter Tryz.func127, Tryz.ntmps127
    go_wp2
    go_ret
    have hd : letterB n = false := by simp [letterB]; omega
    exact ⟨by rw [hd]; rfl, rfl⟩
end Go.Proofs.YthfbjfocmnikaaaGreatDoor
/- The document's Text, Nth, Ahead, walked. Conditions: a book that is right, or letters that are bytes. -/
namespace Go.Proofs.YthfbjfocmnikaaaGreatDoor
open Go.RowKit
set_option linter.unusedVariables false
/-- How many are ahead, by going along. -/
theorem ahead_step {l : List LLeaf} {p : ByteArray} (hr : Rising l) {k : Nat} (h1 : ∀ j (hj : j < l.length), j < k → Op.bytesLess l[j].place.toList p.toList = true) (hk : k ≤ l.length)
    (h2 : ∀ (hk : k < l.length), Op.bytesLess l[k].place.toList p.toList = false) : ahead l p = k := by
  refine ahead_of hk h1 (fun j hj hkj => ?_)
  have hkl : k < l.length := by omega
  rcases Nat.eq_or_lt_of_le hkj with h | h
  · subst h; exact h2 hkl
  · cases hh : Op.bytesLess l[j].place.toList p.toList
    · rfl
    · have := less_trans _ _ _ (rising_lt hr k j hkl hj h) hh
      rw [h2 hkl] at this; cases this
set_option maxRecDepth 100000 in
set_option maxHeartbeats 2000000 in
theorem rahead_any (w : World) (A : Option Addr) (c : Nat) (l : List LLeaf) (p : ByteArray) (h : Reads w w.heap.size 3 A l.length (lcells l)) (hn : l.length ≤ 1000000) (hr : Rising l) :
    Calls Tryz.prog 129 #[.slice A l.length c, .string p] w fun e w' => e = .returned (.int .i64 (ahead l p : Int)) ∧ w' = w := by
  have HR := Lib.hid h
  have HRi := Lib.hid hr
  clear h hr
  go_enter Tryz.func129, Tryz.ntmps129
  go_wp2_with fail
  go_loop [5] (fun i => ∃ k : Nat, k ≤ l.length ∧ i = .int .i64 k ∧ Hid (∀ j (hj : j < l.length), j < k → Op.bytesLess l[j].place.toList p.toList = true)) (fun i => l.length - (intOf i).toNat)
  case atStart => exact ⟨0, by omega, rfl, fun j hj h => by omega⟩
  case round =>
    obtain ⟨k, hk, rfl, H1⟩ := hrel
    by_cases hkn : k < l.length
    · obtain ⟨ad, rfl, hb, c0, c1, c2⟩ := HR.out.leaf hkn
      have hlt : (k : Int) < (l.length : Int) := by omega
      have hk0 : (0 : Int) ≤ (k : Int) := by omega
      cases hless : Op.bytesLess l[k].place.toList p.toList with
      | true =>
        have HS : Hid (∀ j (hj : j < l.length), j < k + 1 → Op.bytesLess l[j].place.toList p.toList = true) := fun j hj hlt => by
          rcases Nat.eq_or_lt_of_le (Nat.le_of_lt_succ hlt) with h | h
          · subst h; exact hless
          · exact H1.out j hj h
        generalize l[k] = x at *
        go_wp2_with fail
        go_round
        case rel => exact ⟨k + 1, by omega, by go_num, HS⟩
        case measure => simp [intOf]; omega
      | false =>
        have HA : Hid (ahead l p = k) := ahead_step HRi.out (fun j hj h => H1.out j hj h) hk (fun _ => hless)
        generalize l[k] = x at *
        go_wp2_with fail
        go_ret
        exact ⟨by rw [HA.out]; rfl, rfl⟩
    · have hd : decide ((k : Int) < (l.length : Int)) = false := by simp; omega
      have HA : Hid (ahead l p = k) := ahead_step HRi.out (fun j hj h => H1.out j hj h) hk (fun h => absurd h hkn)
      go_wp2_with fail
      go_ret
      exact ⟨by rw [HA.out]; rfl, rfl⟩
end Go.Proofs.YthfbjfocmnikaaaGreatDoor

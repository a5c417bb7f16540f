/- The document's Book, walked. Conditions: places that an int may count. -/
import Derived.Test.YteiadcdaleckjaaDoorBookAt
import Derived.Test.YteiadcdaleckjaaDoorLess
import Derived.Test.YteiadcdaleckjaaDoorRefPlace
namespace Go.Proofs.YteiadcdaleckjaaDoor
open Go.RowKit
set_option linter.unusedVariables false
theorem leq_less (x y : List UInt8) : (Op.bytesLess y x || y == x) = !Op.bytesLess x y := by
  cases h : Op.bytesLess x y
  · by_cases e : y = x
    · subst e; simp
    · rw [less_total' x y h (fun h => e h.symm)]; rfl
  · rw [less_asymm' x y h]
    by_cases e : y = x
    · subst e; rw [less_irrefl'] at h; cases h
    · simp [e]
set_option maxRecDepth 100000 in
set_option maxHeartbeats 4000000 in
theorem rbook_any (w : World) (A : Option Addr) (c : Nat) (l : List LLeaf) (h : Reads w w.heap.size 3 A l.length (lcells l)) (hs : Sized l) (hn : l.length ≤ 9223372036854775807) :
    Calls Tryd.prog 13 #[.slice A l.length c] w (CheckPost w (.int .i64 (bookErr l))) := by
  have HR := Lib.hid h
  have HC := Lib.hid (fun w (x : LLeaf) (hx : x.place.size ≤ 9223372036854775807) => rplace_any w x.place hx)
  have HL := Lib.hid (fun w n => rletter_any w n)
  have HSz := Lib.hid hs
  clear h hs
  by_cases h3 : 300 < l.length
  · have HE : Hid (bookErr l = 4) := if_pos h3
    go_enter Tryd.func13, Tryd.ntmps13
    go_wp2_with fail
    go_ret
    exact ⟨by rw [HE.out]; rfl, Below.refl _ _⟩
  · have hl3 : l.length ≤ 300 := by omega
    have HE0 : Hid (bookErr l = bookFault none l) := if_neg h3
    clear h3 hn
    go_enter Tryd.func13, Tryd.ntmps13
    go_wp2_with fail
    go_loopw [3] (fun i wr => BookLoop w l i wr) (fun i _ => l.length - (intOf i).toNat)
    case atStart => exact ⟨0, by omega, rfl, Below.refl _ _, HE0⟩
    case round =>
      obtain ⟨k, hk, rfl, HB, HE⟩ := hrel
      by_cases hkn : k < l.length
      · obtain ⟨ad, rfl, hb, c0, c1, c2⟩ := (HR.out.below HB.out).leaf hkn
        have hlt : (k : Int) < (l.length : Int) := by omega
        have hk0' : (0 : Int) ≤ (k : Int) := by omega
        have hdrop := List.drop_eq_getElem_cons hkn
        have hpre : prevAt l (k + 1) = some l[k] := by unfold prevAt; rw [if_neg (by omega)]; simp [hkn]
        have hsz := HSz.out l[k] (List.getElem_mem hkn)
        have hE2 := HE.out
        rw [hdrop, bookFault] at hE2
        generalize l[k] = x at hsz hE2 hpre c0 c1 c2
        obtain ⟨p, n, s⟩ := x
        simp only at hsz c0 c1 c2
        have HP1 := Lib.hid hpre
        have HE2 := Lib.hid hE2
        clear hdrop hpre hE2
        have HPrev : Hid (∀ j, k = j + 1 → ∃ (hj : j < l.length), prevAt l k = some l[j]) := fun j hj => ⟨by omega, by unfold prevAt; rw [if_neg (by omega)]; simp [hj, show j < l.length by omega]⟩
        by_cases hp : placeErr p = 0
        · have HP := Lib.hid hp
          have hp0 : (placeErr p != 0) = false := by simp [hp]
          clear hp
          by_cases hgood : (n ≠ 0 ∧ letterB n = true) ∨ (n = 0 ∧ s = true)
          · have hno : ∀ prev, leafErr prev ⟨p, n, s⟩ = if (match prev with | none => true | some q => Op.bytesLess q.place.toList p.toList) = false then 7 else 0 := fun prev => by
              unfold leafErr
              rw [if_neg (fun h => h HP.out), if_neg (by rcases hgood with ⟨h1, h2⟩ | ⟨h1, h2⟩ <;> simp [h1, h2]), if_neg (by rcases hgood with ⟨h1, h2⟩ | ⟨h1, h2⟩ <;> simp [h1, h2])]
              rfl
            have HNO := Lib.hid hno
            clear hno
            go_wp2_with fail
            refine (HC.out _ ⟨p, n, s⟩ hsz).mono ?_
            rintro e w1 ⟨rfl, rfl⟩
            rw [HP.out]
            go_wp2_with fail
            refine (HL.out _ n).mono ?_
            rintro e w1 ⟨rfl, rfl⟩
            rcases hgood with ⟨hn0, hlb⟩ | ⟨rfl, rfl⟩
            · have g0 : (n != 0) = true := by simp [hn0]
              have g1 : (n == 0) = false := by simp [hn0]
              rw [hlb]
              clear hn0 hlb
              rcases Nat.eq_zero_or_pos k with hk0 | hk0
              · have HF : Hid (bookErr l = bookFault (some ⟨p, n, s⟩) (l.drop (k + 1))) := by
                  show _ = _
                  rw [HE2.out, show leafErr (prevAt l k) ⟨p, n, s⟩ = 0 by rw [HNO.out, hk0]; simp [prevAt], if_neg (by omega)]
                have hd0 : decide ((0 : Int) < (k : Int)) = false := decide_eq_false (by omega)
                have hd1 : decide (0 < k) = false := decide_eq_false (by omega)
                clear HE2 HNO HPrev hk0
                go_wp2_with fail
                go_quiet (fail)
                go_wp2_with fail
                go_roundw
                case rel => exact ⟨k + 1, by omega, by go_num, below_drewN HB.out _, by rw [HP1.out]; exact HF⟩
                case measure => simp [intOf]; omega
              · obtain ⟨j, rfl⟩ : ∃ j, k = j + 1 := ⟨k - 1, by omega⟩
                obtain ⟨hj, hpv⟩ := HPrev.out j rfl
                obtain ⟨ad2, had2, hb2, e0, _, _⟩ := (HR.out.below HB.out).leaf hj
                obtain rfl : ad = ad2 := by injection had2
                have q1 : IntKind.i64.wrap ((j : Int) + 1 - 1) = (j : Int) := by rw [IntWalk.i64_in _ (by omega)]; omega
                have j0 : (0 : Int) ≤ (j : Int) := by omega
                have j1 : (j : Int) < (l.length : Int) := by omega
                have hlq := leq_less l[j].place.toList p.toList
                have HNJ : Hid (leafErr (prevAt l (j + 1)) ⟨p, n, s⟩ = if Op.bytesLess l[j].place.toList p.toList = false then 7 else 0) := by show _ = _; rw [HNO.out, hpv]
                clear hpv had2 HNO HPrev
                generalize l[j].place = pj at *
                cases hless : Op.bytesLess pj.toList p.toList with
                | true =>
                  have HF : Hid (bookErr l = bookFault (some ⟨p, n, s⟩) (l.drop (j + 1 + 1))) := by
                    show _ = _
                    rw [HE2.out, HNJ.out, hless]; rfl
                  rw [hless] at hlq
                  clear HE2 HNJ
                  go_wp2_with fail
                  go_quiet (fail)
                  go_wp2_with fail
                  go_roundw
                  case rel => exact ⟨j + 1 + 1, by omega, by go_num, below_drewN HB.out _, by rw [HP1.out]; exact HF⟩
                  case measure => simp [intOf]; omega
                | false =>
                  have HF : Hid (bookErr l = 7) := by
                    show _ = _
                    rw [HE2.out, HNJ.out, hless]; rfl
                  rw [hless] at hlq
                  clear HE2 HNJ
                  go_wp2_with fail
                  go_quiet (fail)
                  go_wp2_with fail
                  go_ret
                  exact ⟨by rw [HF.out]; rfl, below_drewN HB.out _⟩
            · rcases Nat.eq_zero_or_pos k with hk0 | hk0
              · have HF : Hid (bookErr l = bookFault (some ⟨p, 0, true⟩) (l.drop (k + 1))) := by
                  show _ = _
                  rw [HE2.out, show leafErr (prevAt l k) ⟨p, 0, true⟩ = 0 by rw [HNO.out, hk0]; simp [prevAt], if_neg (by omega)]
                have hd0 : decide ((0 : Int) < (k : Int)) = false := decide_eq_false (by omega)
                have hd1 : decide (0 < k) = false := decide_eq_false (by omega)
                clear HE2 HNO HPrev hk0
                go_wp2_with fail
                go_quiet (fail)
                go_wp2_with fail
                go_roundw
                case rel => exact ⟨k + 1, by omega, by go_num, below_drewN HB.out _, by rw [HP1.out]; exact HF⟩
                case measure => simp [intOf]; omega
              · obtain ⟨j, rfl⟩ : ∃ j, k = j + 1 := ⟨k - 1, by omega⟩
                obtain ⟨hj, hpv⟩ := HPrev.out j rfl
                obtain ⟨ad2, had2, hb2, e0, _, _⟩ := (HR.out.below HB.out).leaf hj
                obtain rfl : ad = ad2 := by injection had2
                have q1 : IntKind.i64.wrap ((j : Int) + 1 - 1) = (j : Int) := by rw [IntWalk.i64_in _ (by omega)]; omega
                have j0 : (0 : Int) ≤ (j : Int) := by omega
                have j1 : (j : Int) < (l.length : Int) := by omega
                have hlq := leq_less l[j].place.toList p.toList
                have HNJ : Hid (leafErr (prevAt l (j + 1)) ⟨p, 0, true⟩ = if Op.bytesLess l[j].place.toList p.toList = false then 7 else 0) := by show _ = _; rw [HNO.out, hpv]
                clear hpv had2 HNO HPrev
                generalize l[j].place = pj at *
                cases hless : Op.bytesLess pj.toList p.toList with
                | true =>
                  have HF : Hid (bookErr l = bookFault (some ⟨p, 0, true⟩) (l.drop (j + 1 + 1))) := by
                    show _ = _
                    rw [HE2.out, HNJ.out, hless]; rfl
                  rw [hless] at hlq
                  clear HE2 HNJ
                  go_wp2_with fail
                  go_quiet (fail)
                  go_wp2_with fail
                  go_roundw
                  case rel => exact ⟨j + 1 + 1, by omega, by go_num, below_drewN HB.out _, by rw [HP1.out]; exact HF⟩
                  case measure => simp [intOf]; omega
                | false =>
                  have HF : Hid (bookErr l = 7) := by
                    show _ = _
                    rw [HE2.out, HNJ.out, hless]; rfl
                  rw [hless] at hlq
                  clear HE2 HNJ
                  go_wp2_with fail
                  go_quiet (fail)
                  go_wp2_with fail
                  go_ret
                  exact ⟨by rw [HF.out]; rfl, below_drewN HB.out _⟩
          · by_cases hn0 : n = 0
            · have hs0 : s = false := by
                cases s
                · rfl
                · exact absurd (.inr ⟨hn0, rfl⟩) hgood
              subst hn0 hs0
              have HF : Hid (bookErr l = 3) := by
                have h1 : leafErr (prevAt l k) ⟨p, 0, false⟩ = 3 := by unfold leafErr; rw [if_neg (fun h => h HP.out), if_neg (by simp), if_pos ⟨rfl, rfl⟩]
                show _ = _
                rw [HE2.out, h1, if_pos (by omega)]
              clear hgood
              go_wp2_with fail
              refine (HC.out _ ⟨p, 0, false⟩ hsz).mono ?_
              rintro e w1 ⟨rfl, rfl⟩
              rw [HP.out]
              go_wp2_with fail
              refine (HL.out _ 0).mono ?_
              rintro e w1 ⟨rfl, rfl⟩
              go_wp2_with fail
              go_ret
              exact ⟨by rw [HF.out]; rfl, HB.out⟩
            · have hlb : letterB n = false := by
                cases h : letterB n
                · rfl
                · exact absurd (.inl ⟨hn0, h⟩) hgood
              have HF : Hid (bookErr l = 1) := by
                have h1 : leafErr (prevAt l k) ⟨p, n, s⟩ = 1 := by unfold leafErr; rw [if_neg (fun h => h HP.out), if_pos ⟨hn0, hlb⟩]
                show _ = _
                rw [HE2.out, h1, if_pos (by omega)]
              have g0 : (n != 0) = true := by simp [hn0]
              have HLB := Lib.hid hlb
              clear hgood hn0 hlb
              go_wp2_with fail
              refine (HC.out _ ⟨p, n, s⟩ hsz).mono ?_
              rintro e w1 ⟨rfl, rfl⟩
              rw [HP.out]
              go_wp2_with fail
              refine (HL.out _ n).mono ?_
              rintro e w1 ⟨rfl, rfl⟩
              rw [HLB.out]
              go_wp2_with fail
              go_ret
              exact ⟨by rw [HF.out]; rfl, HB.out⟩
        · have HF : Hid (bookErr l = placeErr p) := by
            have h1 : leafErr (prevAt l k) ⟨p, n, s⟩ = placeErr p := if_pos hp
            show _ = _
            rw [HE2.out, h1, if_pos hp]
          have hp0 : (placeErr p != 0) = true := by simp [hp]
          clear hp
          go_wp2_with fail
          refine (HC.out _ ⟨p, n, s⟩ hsz).mono ?_
          rintro e w1 ⟨rfl, rfl⟩
          go_wp2_with fail
          go_ret
          exact ⟨by rw [HF.out]; rfl, HB.out⟩
      · have hd : decide ((k : Int) < (l.length : Int)) = false := by simp; omega
        have HF : Hid (bookErr l = 0) := by
          have := HE.out
          rw [List.drop_of_length_le (by omega), bookFault] at this
          exact this
        go_wp2_with fail
        go_ret
        exact ⟨by rw [HF.out]; rfl, HB.out⟩
end Go.Proofs.YteiadcdaleckjaaDoor

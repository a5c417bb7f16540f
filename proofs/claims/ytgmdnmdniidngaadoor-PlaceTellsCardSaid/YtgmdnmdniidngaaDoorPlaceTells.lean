/- leaflaw1.PlaceTells, walked: what is wrong with any place, whose it is, which is between any two, and how long it is. Conditions: none of our own. -/
import Derived.Deep.CutBlock
import Derived.Test.YtgmdnmdniidngaaDoorCard
import Derived.Test.YtgmdnmdniidngaaDoorLift
import Derived.Test.YtgmdnmdniidngaaDoorOpen
import Derived.Test.YtgmdnmdniidngaaDoorPlaceRoom
import Derived.Test.YtgmdnmdniidngaaDoorPlaceWho
import Derived.Test.YtgmdnmdniidngaaDoorRefBetween2
import Derived.Test.YtgmdnmdniidngaaDoorTold
namespace Go.Proofs.YtgmdnmdniidngaaDoor
open Go.RowKit Go.WideShapes Go.ChangeShapes Go.ChangeAt
set_option linter.unusedVariables false
namespace lawPlaceTells
theorem beq_self (k : Int) : (k == k) = true := by simp
def whoV (a : ByteArray) : Int := if placeErr a = 0 then ((byteAt a (a.size - 1) - 97 : Nat) : Int) else 0
def longV (a b : ByteArray) : Int := if roomErr a b = 0 then ((quarter a b).length : Int) + 1 else 0
def AuthorCut (w : World) (a : ByteArray) (v : Value) (wx : World) : Prop := v = .int .i64 (whoV a) ∧ Hid (Below w.heap.size w wx)
def RoomCut (w : World) (a b : ByteArray) (u v : Value) (wx : World) : Prop := u = .int .i64 (roomErr a b) ∧ v = .int .i64 (longV a b) ∧ Hid (Below w.heap.size w wx)
set_option maxRecDepth 100000 in
set_option maxHeartbeats 8000000 in
theorem walk (w : World) (a b : ByteArray) (who : Int) (hg : Glob w) (ha : a.size ≤ 9223372036854775807) (hb : b.size ≤ 9223372036854775807) :
    Calls Tryd.prog 4 #[.string a, .string b, .int .i64 who] w (CheckPost w (.bool true)) := by
  have KE := Lib.hid (fun W (hb : Below w.heap.size w W) k e => error_any W k e (hg.below hb (Nat.le_refl _)))
  have KP := Lib.hid (fun W => rplace_any W a ha)
  have KC := Lib.hid (fun W => check_any W a ha)
  have KW := Lib.hid (fun W => who_any W a ha)
  have KRW := Lib.hid (fun W h => rwho_any W a h)
  have KT := Lib.hid (fun W => rtwo_any W a b ha hb)
  have KRO := Lib.hid (fun W => room_any W a b ha hb)
  have KB := Lib.hid (fun W => between_any W a b who ha hb)
  have KRB := Lib.hid (fun W h1 h8 => rbetween_any W a b who ha hb h1 h8)
  clear hg ha hb
  have HB0 : Hid (Below w.heap.size w w) := Below.refl _ _
  go_enter Tryd.func4, Tryd.ntmps4
  go_wp2_with fail
  refine (KP.out _).mono ?_
  rintro e w1 ⟨rfl, hw⟩
  obtain rfl := hw.symm
  clear hw KP
  go_wp2_with fail
  refine (KC.out _).mono ?_
  rintro e w2 ⟨rfl, hb2⟩
  have HB2 := Lib.hid (HB0.out.trans (hb2.mono HB0.out.size))
  clear hb2 KC
  go_wp2_with fail
  refine (KE.out _ HB2.out _ _).mono ?_
  rintro e w3 ⟨rfl, hb3⟩
  rw [beq_self]
  have HB3 := Lib.hid (HB2.out.trans (hb3.mono HB2.out.size))
  clear hb3 HB2
  go_upto_if 27 with (fail)
  go_cut [9] (fun v wx => AuthorCut w a v wx)
  case first => as_aux_lemma =>
    by_cases he : placeErr a = 0
    · have HV : Hid (whoV a = ((byteAt a (a.size - 1) - 97 : Nat) : Int)) := if_pos he
      have HCW := Lib.hid (KRW.out w3 he)
      have g0 : (placeErr a == 0) = true := by rw [beq_iff_eq]; exact he
      clear he
      go_wp2_with fail
      refine HCW.out.mono ?_
      rintro e w4 ⟨rfl, hw⟩
      obtain rfl := hw.symm
      clear hw
      go_wp2_with fail
      go_meet
      case rel => exact ⟨by rw [HV.out], HB3⟩
    · have HV : Hid (whoV a = 0) := if_neg he
      have g0 : (placeErr a == 0) = false := by simpa using he
      clear he
      go_wp2_with fail
      go_meet
      case rel => exact ⟨by rw [HV.out], HB3⟩
  case rest =>
    obtain ⟨rfl, HB4⟩ := hcut
    clear HB3
    go_wp2_with fail
    refine (KW.out _).mono ?_
    rintro e w5 ⟨rfl, hb5⟩
    rw [show (if placeErr a = 0 then ((byteAt a (a.size - 1) - 97 : Nat) : Int) else 0) = whoV a from rfl]
    have HB5 := Lib.hid (HB4.out.trans (hb5.mono HB4.out.size))
    clear hb5 HB4
    go_wp2_with fail
    refine (KE.out _ HB5.out _ _).mono ?_
    rintro e w6 ⟨rfl, hb6⟩
    rw [beq_self]
    have HB6 := Lib.hid (HB5.out.trans (hb6.mono HB5.out.size))
    clear hb6 HB5
    generalize whoV a = wv at *
    generalize placeErr a = pe at *
    go_wp2_with fail
    refine (KT.out _).mono ?_
    rintro e w7 ⟨rfl, hw⟩
    obtain rfl := hw.symm
    clear hw
    go_upto_if 42 with (fail)
    go_cut [7, 13] (fun u v wx => RoomCut w a b u v wx)
    case first => as_aux_lemma =>
      by_cases he : readyErr a b = 0
      · obtain ⟨⟨k1, k2⟩, k3, k4⟩ := ready_ok he
        have HCQ := Lib.hid (rquarter_any w6 a b k2 k4 k1 k3)
        have hql := quarter_le a b
        have HS : Hid ((strOf (quarter a b)).size = (quarter a b).length) := strOf_size _
        have hsz : (strOf (quarter a b)).size ≤ 11 := by rw [HS.out]; exact hql
        have q1 : IntKind.i64.wrap (((strOf (quarter a b)).size : Int) + 1) = ((strOf (quarter a b)).size : Int) + 1 := IntWalk.i64_in _ (by omega)
        have g0 : (readyErr a b == 0) = true := by rw [beq_iff_eq]; exact he
        by_cases hq : quarter a b = []
        · have HE : Hid (roomErr a b = 8) := by show _ = _; unfold roomErr; rw [if_neg (fun h => h he), if_pos hq]
          have HL : Hid (longV a b = 0) := by show _ = _; unfold longV; rw [if_neg (by rw [HE.out]; decide)]
          have hm : (strOf (quarter a b)).toList.isEmpty = true := by rw [strOf_tl, hq]; rfl
          clear he hq hql k1 k2 k3 k4
          generalize strOf (quarter a b) = m at *
          generalize readyErr a b = re at *
          go_wp2_with fail
          refine HCQ.out.mono ?_
          rintro e w8 ⟨rfl, hb8⟩
          have HB8 := Lib.hid (HB6.out.trans (hb8.mono HB6.out.size))
          clear hb8
          go_wp2_with fail
          go_meet
          case rel => exact ⟨by rw [HE.out], by rw [HL.out], HB8⟩
        · have HE : Hid (roomErr a b = 0) := by show _ = _; unfold roomErr; rw [if_neg (fun h => h he), if_neg hq]
          have HL : Hid (longV a b = ((strOf (quarter a b)).size : Int) + 1) := by show _ = _; unfold longV; rw [if_pos HE.out, HS.out]
          have HR0 : Hid (readyErr a b = 0) := he
          have hm : (strOf (quarter a b)).toList.isEmpty = false := by
            rw [strOf_tl]
            cases hqq : quarter a b with
            | nil => exact absurd hqq hq
            | cons => rfl
          clear he hq hql k1 k2 k3 k4
          generalize strOf (quarter a b) = m at *
          generalize readyErr a b = re at *
          go_wp2_with fail
          refine HCQ.out.mono ?_
          rintro e w8 ⟨rfl, hb8⟩
          have HB8 := Lib.hid (HB6.out.trans (hb8.mono HB6.out.size))
          clear hb8
          go_wp2_with fail
          go_meet
          case rel => exact ⟨by rw [HE.out, HR0.out], by rw [HL.out], HB8⟩
      · have HE : Hid (roomErr a b = readyErr a b) := by show _ = _; unfold roomErr; rw [if_pos he]
        have HL : Hid (longV a b = 0) := by show _ = _; unfold longV; rw [if_neg (by rw [HE.out]; exact he)]
        have g0 : (readyErr a b == 0) = false := by simpa using he
        have g1 : ¬ readyErr a b = 0 := he
        clear he
        generalize readyErr a b = re at *
        go_wp2_with fail
        go_meet
        case rel => exact ⟨by rw [HE.out], by rw [HL.out], HB6⟩
    case rest =>
      obtain ⟨rfl, rfl, HB8⟩ := hcut
      clear HB6
      go_wp2_with fail
      refine (KRO.out _).mono ?_
      rintro e w9 ⟨rfl, hb9⟩
      rw [show (if roomErr a b = 0 then ((quarter a b).length : Int) + 1 else 0) = longV a b from rfl]
      have HB9 := Lib.hid (HB8.out.trans (hb9.mono HB8.out.size))
      clear hb9 HB8
      go_wp2_with fail
      refine (KE.out _ HB9.out _ _).mono ?_
      rintro e w10 ⟨rfl, hb10⟩
      rw [beq_self]
      have HB10 := Lib.hid (HB9.out.trans (hb10.mono HB9.out.size))
      clear hb10 HB9
      by_cases hw : 1 ≤ who ∧ who ≤ 8
      · obtain ⟨h1, h8⟩ := hw
        have d1 : decide (who ≥ 1) = true := decide_eq_true h1
        have d8 : decide (who ≤ 8) = true := decide_eq_true h8
        have HC := Lib.hid (KRB.out w10 h1 h8)
        generalize longV a b = lv at *
        generalize roomErr a b = re at *
        go_wp2_with fail
        refine HC.out.mono ?_
        rintro e w11 ⟨rfl, hb11⟩
        have HB11 := Lib.hid (HB10.out.trans (hb11.mono HB10.out.size))
        clear hb11
        go_wp2_with fail
        refine (KB.out _).mono ?_
        rintro e w12 ⟨rfl, hb12⟩
        have HB12 := Lib.hid (HB11.out.trans (hb12.mono HB11.out.size))
        clear hb12
        generalize strOf (betweenRes a b who) = res at *
        have hr : (res.toList == res.toList) = true := beq_self_eq_true _
        go_wp2_with fail
        refine (KE.out _ HB12.out _ _).mono ?_
        rintro e w13 ⟨rfl, hb13⟩
        rw [beq_self]
        have HB13 := Lib.hid (HB12.out.trans (hb13.mono HB12.out.size))
        clear hb13
        go_wp2_with fail
        go_ret
        exact ⟨rfl, HB13.out⟩
      · have HBE : Hid (betweenErr a b who = 1) := by show _ = _; unfold betweenErr; rw [if_pos (by omega)]
        have HBR : Hid (strOf (betweenRes a b who) = ⟨#[]⟩) := by show _ = _; unfold betweenRes; rw [if_neg (by rw [HBE.out]; decide)]; rfl
        generalize longV a b = lv at *
        generalize roomErr a b = re at *
        have hr : ((⟨#[]⟩ : ByteArray).toList == (⟨#[]⟩ : ByteArray).toList) = true := beq_self_eq_true _
        rcases (show who < 1 ∨ (1 ≤ who ∧ 8 < who) by omega) with h1 | ⟨h1, h8⟩
        · have d1 : decide (who ≥ 1) = false := decide_eq_false (by omega)
          have d2 : decide (1 ≤ who) = false := decide_eq_false (by omega)
          clear hw
          go_wp2_with fail
          refine (KB.out _).mono ?_
          rintro e w12 ⟨rfl, hb12⟩
          have HB12 := Lib.hid (HB10.out.trans (hb12.mono HB10.out.size))
          clear hb12
          rw [HBR.out, HBE.out]
          go_wp2_with fail
          refine (KE.out _ HB12.out _ _).mono ?_
          rintro e w13 ⟨rfl, hb13⟩
          rw [beq_self]
          have HB13 := Lib.hid (HB12.out.trans (hb13.mono HB12.out.size))
          clear hb13
          go_wp2_with fail
          go_ret
          exact ⟨rfl, HB13.out⟩
        · have d1 : decide (who ≥ 1) = true := decide_eq_true (by omega)
          have d2 : decide (1 ≤ who) = true := decide_eq_true (by omega)
          have d8 : decide (who ≤ 8) = false := decide_eq_false (by omega)
          clear hw
          go_wp2_with fail
          refine (KB.out _).mono ?_
          rintro e w12 ⟨rfl, hb12⟩
          have HB12 := Lib.hid (HB10.out.trans (hb12.mono HB10.out.size))
          clear hb12
          rw [HBR.out, HBE.out]
          go_wp2_with fail
          refine (KE.out _ HB12.out _ _).mono ?_
          rintro e w13 ⟨rfl, hb13⟩
          rw [beq_self]
          have HB13 := Lib.hid (HB12.out.trans (hb13.mono HB12.out.size))
          clear hb13
          go_wp2_with fail
          go_ret
          exact ⟨rfl, HB13.out⟩
set_option maxRecDepth 100000 in
theorem lifted (os : Os) (started : os.Started) (H : Type) (enc : TypeId × Value → H) :
    ReturnsInHanded {} Tryd.checked os 4 .any (fun w args => (Rows.placeTellsSpec.pre enc Tryd.prog Tryd.f4 [] false w args ∧ laidMetH Tryd.prog Card.laid w) ∧ sizedMet enc Tryd.prog Tryd.f4 (OpenSpec.ofChange Rows.placeTellsSpec) false w args)
      (Rows.placeTellsSpec.post enc Tryd.prog Tryd.f4 false true false false) := by
  refine returnsInHanded_of_change_and (C := Tryd.checked) (X := fun w _ => laidMetH Tryd.prog Card.laid w) (fun _ _ _ hh h => h.of_heap hh) Tryd.own started (by kernel_rfl) Tryd.func4
    (ChangeSpec.witness_at (enc := enc) (C := Tryd.checked) (os := os) (X := fun w _ => laidMetH Tryd.prog Card.laid w) false (Card.laidWorld os) #[.string ⟨#[]⟩, .string ⟨#[]⟩, .int .i64 0] 8 rfl (by kernel_rfl) (by kernel_rfl) (by kernel_rfl) (by kernel_rfl) (by kernel_rfl) (Card.laidWorld_met os _)) ?_
  intro W base args ds gs before hval0 hW _ hsz0 hL _
  have hval : ∀ (j : Nat) t v, Tryd.f4.params[j]? = some t → args[j]? = some v → Value.okWide Tryd.prog W .any base t v := hval0
  obtain ⟨p, q, hA0, _⟩ := id hW
  have hA : DataW.TrodAll enc Tryd.prog W 0 (fun _ => true) true Tryd.f4.params.toList args.toList ds p := hA0
  have hsz : (DataW.weightsEach Tryd.prog (Tryd.f4.params.toList ++ Rows.placeTellsSpec.plain.varTypes Tryd.prog) (ds ++ gs)).all (· ≤ reachBytes) = true := hsz0
  rw [Tryd.params4] at hA hval hsz
  obtain ⟨v0, v1, v2, d0, d1, d2, p0, p1, p2, rfl, rfl, rfl, h0, h1, h2⟩ := trodAll_three hA
  obtain ⟨a0, rfl, rfl, rfl, wa0⟩ := Go.ChangeMaps.open_string Tryd.underlying9 (hval 0 9 v0 rfl rfl) h0
  obtain ⟨a1, rfl, rfl, rfl, wa1⟩ := Go.ChangeMaps.open_string Tryd.underlying9 (hval 1 9 v1 rfl rfl) h1
  obtain ⟨a2, rfl, rfl, rfl, wa2⟩ := open_int Tryd.underlying3 (hval 2 3 v2 rfl rfl) h2
  refine (walk W a0 a1 a2 (Card.glob_of_laid hL) (by unfold maxLen at wa0; exact wa0) (by unfold maxLen at wa1; exact wa1)).mono fun e W' ⟨he, hb⟩ => ⟨_, he, ?_⟩
  exact law_post Tryd.laidOut (tb := 4) (by kernel_rfl) Tryd.underlying4 (by rw [Tryd.params4]; simp only [List.mem_cons, List.not_mem_nil, or_false]; rintro t (rfl | rfl | rfl) <;> exact ⟨by kernel_rfl, of_decide_eq_true (by kernel_rfl)⟩) rfl rfl hW hb

theorem holds : Rows.PlaceTellsSaid :=
  OpenClaim.holds_of_wide 4 Tryd.f4 rfl rfl rfl rfl rfl rfl rfl ⟨rfl, rfl, rfl, rfl, rfl⟩ rfl rfl rfl rfl rfl (by kernel_rfl) Tryd.func4 (by kernel_rfl)
    (of_decide_eq_true (by kernel_rfl)) (by unfold Func.isWrapper; first | (rw [if_pos (by decide +kernel)]; kernel_rfl) | (rw [if_neg (by decide +kernel)]; exact ⟨rfl, rfl⟩))
    (fun os started H enc _ => lifted os started H enc)
theorem noStand : ∀ t ∈ Tryd.f4.params.toList, Tryd.prog.wantsStandIn t = false := by
  rw [Tryd.params4]
  simp only [List.mem_cons, List.not_mem_nil, or_false]
  rintro t (rfl | rfl | rfl) <;> kernel_rfl
theorem card_holds : Rows.PlaceTellsCardSaid :=
  Claim7.holds_tied_plain_at .later [] [.handle] true Rows.placeTellsCard.stood.harness true
    holds (fun _ h => by cases h) (by kernel_rfl) (fun _ h => by cases h) placeTells_row_tie rfl ⟨rfl, rfl⟩ (by kernel_rfl) rfl
    (fun f fn hf hfn => by
      obtain rfl : f = 4 := Option.some.inj ((show Tryd.prog.funcNamed Rows.placeTellsRow.func = some 4 by kernel_rfl).symm.trans hf) |>.symm
      obtain rfl : fn = Tryd.f4 := (Option.some.inj (Tryd.func4.symm.trans hfn)).symm
      exact ⟨by kernel_rfl, fun j t ht => noStand t (by
        have := Array.mem_of_getElem? ht
        simpa using this)⟩)
    (by kernel_rfl)
#print axioms card_holds
end lawPlaceTells
end Go.Proofs.YtgmdnmdniidngaaDoor

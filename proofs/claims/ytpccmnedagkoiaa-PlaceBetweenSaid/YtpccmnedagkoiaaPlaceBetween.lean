/- BETWEEN IS BETWEEN: the law PlaceBetween answers true. Conditions: none. -/
import Derived.Test.YtpccmnedagkoiaaPlaceLaw
import Derived.Test.YtpccmnedagkoiaaLift
namespace Go.Proofs.Ytpccmnedagkoiaa
open Go.RowKit Go.WideShapes Go.ChangeShapes Go.ChangeAt
open Go.ChangeMaps (open_string)
set_option linter.unusedVariables false
namespace lawPlaceBetween

theorem fact_err : betweenErr ⟨#[]⟩ ⟨#[]⟩ 1 = 0 := by decide +kernel
theorem fact_res : betweenRes ⟨#[]⟩ ⟨#[]⟩ 1 = [104, 98] := by decide +kernel
theorem fact_ok : placeErr (strOf [104, 98]) = 0 := by decide +kernel
theorem fact_size : (strOf [104, 98]).size = 2 := rfl

set_option maxRecDepth 100000 in
set_option maxHeartbeats 4000000 in
theorem walk (w : World) (a b : ByteArray) (who other : Int) (ha : a.size ≤ 9223372036854775807) (hb : b.size ≤ 9223372036854775807) :
    Calls Try.prog 7 #[.string a, .string b, .int .i64 who, .int .i64 other] w (CheckPost w (.bool true)) := by
  have HB := Lib.hid (fun w who => between_any w a b who ha hb)
  have HR := Lib.hid (fun w => room_any w a b ha hb)
  have H0 := Lib.hid (between_any w ⟨#[]⟩ ⟨#[]⟩ 1 (by decide) (by decide))
  have H1 := Lib.hid (fun w => check_any w (strOf [104, 98]) (by decide))
  have F3 := fact_size
  have F4 : (strOf [104, 98]).size ≤ 9223372036854775807 := by rw [fact_size]; omega
  clear ha hb
  obtain ⟨f, hf⟩ : ∃ f, f = strOf [104, 98] := ⟨_, rfl⟩
  rw [← hf] at F3 F4 H1
  have HF := Lib.hid hf
  have HPF : Hid (placeErr f = 0) := by rw [hf]; exact fact_ok
  clear hf
  by_cases he : betweenErr a b who = 0
  · have g := good_of he
    have HSame := Lib.hid (fun h2 => same_iff (a := a) (b := b) (who := who) (other := other) he h2)
    obtain ⟨p, hp⟩ : ∃ p, p = strOf (betweenRes a b who) := ⟨_, rfl⟩
    rw [← hp] at g HSame
    have hpm : p.size ≤ 9223372036854775807 := by have := g.long; have := quarter_le a b; omega
    have HW := Lib.hid (fun w => who_any w p hpm)
    have HC := Lib.hid (fun w => check_any w p hpm)
    have HG := Lib.hid g
    have HP := Lib.hid hp
    have HE := Lib.hid he
    have hle : (Op.bytesLess p.toList a.toList || p.toList == a.toList) = false := by rw [g.above, g.other]; rfl
    have hab := g.above
    have hot := g.other
    have hlen : (((quarter a b).length : Int) + 1 != (p.size : Int)) = false := by rw [bne_eq_false_iff_eq]; exact g.long.symm
    have hbel : b.toList.isEmpty = false → Op.bytesLess p.toList b.toList = true := fun h => g.below (fun hz => by rw [isEmpty_of hz] at h; cases h)
    have HBL := Lib.hid hbel
    clear g hp he hbel
    go_enter Try.func7, Try.ntmps7
    go_wp2_with fail
    refine H0.out.mono ?_
    rintro e w1 ⟨rfl, hb1⟩
    rw [fact_err, fact_res, ← HF.out, show errV 0 = .nilIface from rfl]
    go_wp2_with fail
    refine (H1.out _).mono ?_
    rintro e w2 ⟨rfl, hb2⟩
    rw [HPF.out, show errV 0 = .nilIface from rfl]
    have hb12 := hb1.trans (hb2.mono hb1.size)
    go_wp2_with fail
    refine (HB.out _ _).mono ?_
    rintro e w3 ⟨rfl, hb3⟩
    rw [HE.out, ← HP.out, show errV 0 = .nilIface from rfl]
    have hb13 := hb12.trans (hb3.mono hb12.size)
    go_wp2_with fail
    refine (HW.out _).mono ?_
    rintro e w4 ⟨rfl, hb4⟩
    rw [if_pos HG.out.check, HG.out.who, HG.out.check, show errV 0 = .nilIface from rfl]
    have hb14 := hb13.trans (hb4.mono hb13.size)
    go_wp2_with fail
    refine (HR.out _).mono ?_
    rintro e w5 ⟨rfl, hb5⟩
    rw [if_pos HG.out.room, HG.out.room, show errV 0 = .nilIface from rfl]
    have hb15 := hb14.trans (hb5.mono hb14.size)
    cases hE : b.toList.isEmpty with
    | true =>
      go_wp2_with fail
      refine (HC.out _).mono ?_
      rintro e w6 ⟨rfl, hb6⟩
      rw [HG.out.check, show errV 0 = .nilIface from rfl]
      have hb16 := hb15.trans (hb6.mono hb15.size)
      go_wp2_with fail
      refine (HB.out _ _).mono ?_
      rintro e w7 ⟨rfl, hb7⟩
      have hb17 := hb16.trans (hb7.mono hb16.size)
      by_cases ho : betweenErr a b other = 0
      · have hs := HSame.out ho
        rw [ho, show errV 0 = .nilIface from rfl]
        go_wp2_with fail
        go_ret
        exact ⟨by rw [show ((strOf (betweenRes a b other)).toList == p.toList) = (other == who) from beq_iff_eq.1 hs]; simp, hb17⟩
      · rw [errV_ne ho]
        go_wp2_with fail
        go_ret
        exact ⟨rfl, hb17⟩
    | false =>
      have hbl := HBL.out hE
      go_wp2_with fail
      refine (HC.out _).mono ?_
      rintro e w6 ⟨rfl, hb6⟩
      rw [HG.out.check, show errV 0 = .nilIface from rfl]
      have hb16 := hb15.trans (hb6.mono hb15.size)
      go_wp2_with fail
      refine (HB.out _ _).mono ?_
      rintro e w7 ⟨rfl, hb7⟩
      have hb17 := hb16.trans (hb7.mono hb16.size)
      by_cases ho : betweenErr a b other = 0
      · have hs := HSame.out ho
        rw [ho, show errV 0 = .nilIface from rfl]
        go_wp2_with fail
        go_ret
        exact ⟨by rw [show ((strOf (betweenRes a b other)).toList == p.toList) = (other == who) from beq_iff_eq.1 hs]; simp, hb17⟩
      · rw [errV_ne ho]
        go_wp2_with fail
        go_ret
        exact ⟨rfl, hb17⟩
  · have HV := Lib.hid (errV_ne he)
    clear he
    go_enter Try.func7, Try.ntmps7
    go_wp2_with fail
    refine H0.out.mono ?_
    rintro e w1 ⟨rfl, hb1⟩
    rw [fact_err, fact_res, ← HF.out, show errV 0 = .nilIface from rfl]
    go_wp2_with fail
    refine (H1.out _).mono ?_
    rintro e w2 ⟨rfl, hb2⟩
    rw [HPF.out, show errV 0 = .nilIface from rfl]
    have hb12 := hb1.trans (hb2.mono hb1.size)
    go_wp2_with fail
    refine (HB.out _ _).mono ?_
    rintro e w3 ⟨rfl, hb3⟩
    rw [HV.out]
    have hb13 := hb12.trans (hb3.mono hb12.size)
    go_wp2_with fail
    go_ret
    exact ⟨rfl, hb13⟩

set_option maxRecDepth 100000 in
theorem lifted (os : Os) (started : os.Started) (H : Type) (enc : TypeId × Value → H) :
    ReturnsInHanded {} Try.checked os 7 .any (Rows.placeBetweenSpec.pre6 enc Try.prog Try.f7 Rows.placeBetweenRow.domain false) (Rows.placeBetweenSpec.post enc Try.prog Try.f7 false true false false) := by
  refine returnsInHanded_of_change (C := Try.checked) Try.own started (by kernel_rfl) Try.func7
    (ChangeSpec.witness6 (enc := enc) (C := Try.checked) false ⟨#[], #[.string ⟨#[]⟩, .string ⟨#[]⟩, .int .i64 0, .int .i64 0], []⟩ 8 (by kernel_rfl) (by kernel_rfl) (by kernel_rfl) (by kernel_rfl)) ?_
  intro W base args ds gs before hval0 hW _ _
  have hval : ∀ (j : Nat) t v, Try.f7.params[j]? = some t → args[j]? = some v → Value.okWide Try.prog W .any base t v := hval0
  obtain ⟨p, q, hA0, _⟩ := id hW
  have hA : DataW.TrodAll enc Try.prog W 0 (fun _ => true) true Try.f7.params.toList args.toList ds p := hA0
  rw [Try.params7] at hA hval
  obtain ⟨v0, v1, v2, v3, d0, d1, d2, d3, p0, p1, p2, p3, rfl, rfl, rfl, h0, h1, h2, h3⟩ := trodAll_four hA
  obtain ⟨a0, rfl, rfl, rfl, wa0⟩ := open_string Try.underlying9 (hval 0 9 v0 rfl rfl) h0
  obtain ⟨a1, rfl, rfl, rfl, wa1⟩ := open_string Try.underlying9 (hval 1 9 v1 rfl rfl) h1
  obtain ⟨a2, rfl, rfl, rfl, wa2⟩ := open_int Try.underlying3 (hval 2 3 v2 rfl rfl) h2
  obtain ⟨a3, rfl, rfl, rfl, wa3⟩ := open_int Try.underlying3 (hval 3 3 v3 rfl rfl) h3
  refine (walk W a0 a1 a2 a3 (by unfold maxLen at wa0; exact wa0) (by unfold maxLen at wa1; exact wa1)).mono fun e W' ⟨he, hb⟩ => ⟨_, he, ?_⟩
  exact law_post Try.laidOut (tb := 4) (by kernel_rfl) Try.underlying4 (by rw [Try.params7]; simp only [List.mem_cons, List.not_mem_nil, or_false]; rintro t (rfl | rfl | rfl | rfl) <;> exact ⟨by kernel_rfl, of_decide_eq_true (by kernel_rfl)⟩) rfl rfl hW hb

theorem holds : Rows.PlaceBetweenSaid :=
  OpenClaim.holds_of_wide 7 Try.f7 rfl rfl rfl rfl rfl rfl rfl ⟨rfl, rfl, rfl, rfl, rfl⟩ rfl rfl rfl rfl rfl (by kernel_rfl) Try.func7 (by kernel_rfl)
    (of_decide_eq_true (by kernel_rfl)) (by unfold Func.isWrapper; first | (rw [if_pos (by decide +kernel)]; kernel_rfl) | (rw [if_neg (by decide +kernel)]; exact ⟨rfl, rfl⟩))
    (fun os started H enc _ => lifted os started H enc)
#print axioms holds

end lawPlaceBetween
end Go.Proofs.Ytpccmnedagkoiaa

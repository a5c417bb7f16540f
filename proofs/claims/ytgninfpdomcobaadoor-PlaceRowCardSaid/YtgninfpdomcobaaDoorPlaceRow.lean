/- ONE BEHIND THE OTHER: the law PlaceRow answers true. Conditions: the library's one variable holds what its text lays (the card ties it). -/
import Derived.Test.YtgninfpdomcobaaDoorPlaceShort
import Derived.Test.YtgninfpdomcobaaDoorCard
namespace Go.Proofs.YtgninfpdomcobaaDoor
open Go.RowKit Go.WideShapes Go.ChangeShapes Go.ChangeAt
set_option linter.unusedVariables false
namespace lawPlaceRow

def RowInv (k : Nat) (p : ByteArray) : Prop := p.size = 0 ∧ k = 0 ∨ placeErr p = 0 ∧ p.size ≤ k + 1
theorem empty_size : (⟨#[]⟩ : ByteArray).size = 0 := rfl
theorem row_ready {k : Nat} {p : ByteArray} (h : RowInv k p) : readyErr p ⟨#[]⟩ = 0 ∧ readyErr ⟨#[]⟩ p = 0 := by
  have he := empty_size
  unfold readyErr
  rcases h with ⟨h, _⟩ | ⟨h, _⟩
  · constructor
    · rw [if_neg (by omega), if_neg (by omega), if_neg (by omega)]
    · rw [if_neg (by omega), if_neg (by omega), if_neg (by omega)]
  · constructor
    · rw [if_neg (by omega), if_neg (by omega), if_neg (by omega)]
    · rw [if_neg (by omega), if_neg (by omega), if_neg (by omega)]
theorem room_two {a b : ByteArray} {who : Int} (h : readyErr a b = 0) (h1 : 1 ≤ who) (h2 : who ≤ 8) : betweenErr a b who = 0 ∨ betweenErr a b who = 8 := by
  unfold betweenErr roomErr
  rw [if_neg (by omega), if_neg (fun hh => hh h)]
  by_cases hq : quarter a b = []
  · rw [if_pos hq]; exact .inr rfl
  · rw [if_neg hq]; exact .inl rfl
theorem row_err {k : Nat} {p : ByteArray} {who : Int} (h : RowInv k p) (h1 : 1 ≤ who) (h2 : who ≤ 8) : (betweenErr p ⟨#[]⟩ who = 0 ∨ betweenErr p ⟨#[]⟩ who = 8) ∧ (betweenErr ⟨#[]⟩ p who = 0 ∨ betweenErr ⟨#[]⟩ p who = 8) :=
  ⟨room_two (row_ready h).1 h1 h2, room_two (row_ready h).2 h1 h2⟩
theorem row_behind {k : Nat} {p : ByteArray} {who : Int} (h : RowInv k p) (he : betweenErr p ⟨#[]⟩ who = 0) : RowInv (k + 1) (strOf (betweenRes p ⟨#[]⟩ who)) ∧ (strOf (betweenRes p ⟨#[]⟩ who)).size ≤ k + 2 ∧ Op.bytesLess (strOf (betweenRes p ⟨#[]⟩ who)).toList p.toList = false ∧ ((strOf (betweenRes p ⟨#[]⟩ who)).toList == p.toList) = false := by
  have g := good_of he
  have hs := row_short h
  have hl := g.long
  have hl2 : (strOf (betweenRes p ⟨#[]⟩ who)).size ≤ k + 2 := by omega
  exact ⟨.inr ⟨g.check, hl2⟩, hl2, g.above, g.other⟩
theorem row_ahead {k : Nat} {p : ByteArray} {who : Int} (h : RowInv k p) (he : betweenErr ⟨#[]⟩ p who = 0) : RowInv (k + 1) (strOf (betweenRes ⟨#[]⟩ p who)) ∧ (strOf (betweenRes ⟨#[]⟩ p who)).size ≤ k + 2 ∧ (p.size ≠ 0 → Op.bytesLess (strOf (betweenRes ⟨#[]⟩ p who)).toList p.toList = true) := by
  have g := good_of he
  have hs := row_short h
  have hl := g.long
  have hl2 : (strOf (betweenRes ⟨#[]⟩ p who)).size ≤ k + 2 := by omega
  exact ⟨.inr ⟨g.check, hl2⟩, hl2, g.below⟩
theorem fact_err : betweenErr ⟨#[104, 98]⟩ ⟨#[]⟩ 1 = 0 := by decide +kernel
theorem fact0_err : betweenErr ⟨#[]⟩ ⟨#[]⟩ 0 = 1 := by decide +kernel

def RowLoop (w : World) (n : Nat) (x i : Value) (wr : World) : Prop :=
  ∃ (k : Nat) (p : ByteArray), k ≤ n ∧ i = .int .i64 k ∧ x = .string p ∧ p.size ≤ 12 ∧ Hid (RowInv k p) ∧ Hid (Below w.heap.size w wr)
theorem inv_size {k : Nat} {p : ByteArray} (h : RowInv k p) : p.size ≤ 12 := by
  rcases h with ⟨h, _⟩ | ⟨h, _⟩
  · omega
  · exact (okPlace h).1

set_option maxRecDepth 100000 in
set_option maxHeartbeats 4000000 in
theorem walk (w : World) (n who : Int) (front : Bool) (hg : Glob w) :
    Calls Tryd.prog 5 #[.int .i64 n, .int .i64 who, .bool front] w (CheckPost w (.bool true)) := by
  have HG := Lib.hid hg
  have H0 := Lib.hid (between_any w ⟨#[104, 98]⟩ ⟨#[]⟩ 1 (by decide) (by decide))
  have H1 := Lib.hid (fun w => between_any w ⟨#[]⟩ ⟨#[]⟩ 0 (by decide) (by decide))
  have HB := Lib.hid (fun w p (hp : p.size ≤ 12) => between_any w p ⟨#[]⟩ who (by omega) (by decide))
  have HA := Lib.hid (fun w p (hp : p.size ≤ 12) => between_any w ⟨#[]⟩ p who (by decide) (by omega))
  have HE := Lib.hid (fun w k e h => error_any w k e h)
  have g := good_of fact_err
  have h98 : (⟨#[104, 98]⟩ : ByteArray).toList = [104, 98] := by rw [ByteArray.toList_eq]
  have ga := g.above
  have go := g.other
  rw [h98] at ga go
  have hle : (Op.bytesLess (strOf (betweenRes ⟨#[104, 98]⟩ ⟨#[]⟩ 1)).toList [104, 98] || (strOf (betweenRes ⟨#[104, 98]⟩ ⟨#[]⟩ 1)).toList == [104, 98]) = false := by rw [ga, go]; rfl
  clear g hg ga go h98
  generalize hF : strOf (betweenRes ⟨#[104, 98]⟩ ⟨#[]⟩ 1) = F at hle
  have HF := Lib.hid hF
  clear hF
  go_enter Tryd.func5, Tryd.ntmps5
  go_wp2_with fail
  refine H0.out.mono ?_
  rintro e w1 ⟨rfl, hb1⟩
  rw [HF.out, fact_err, show errV 0 = .nilIface from rfl]
  have HB1 := Lib.hid hb1
  have HG1 := Lib.hid (HG.out.below hb1 (Nat.le_refl _))
  clear hb1
  by_cases hbad : n < 0 ∨ 60 < n ∨ who < 1 ∨ 8 < who
  · rcases (show n < 0 ∨ (0 ≤ n ∧ 60 < n) ∨ (0 ≤ n ∧ n ≤ 60 ∧ who < 1) ∨ (0 ≤ n ∧ n ≤ 60 ∧ 1 ≤ who ∧ 8 < who) by omega) with h | h | h | h
    all_goals
      clear hbad
      go_wp2_with fail
      refine (H1.out _).mono ?_
      rintro e w2 ⟨rfl, hb2⟩
      rw [fact0_err]
      have HG2 := Lib.hid (HG1.out.below hb2 (Nat.le_refl _))
      have HB2 : Hid (Below w.heap.size w w2) := HB1.out.trans (hb2.mono HB1.out.size)
      clear hb2 HB1
      go_wp2_with fail
      refine (HE.out _ 1 1 HG2.out).mono ?_
      rintro e w3 ⟨rfl, hb3⟩
      have HB3 : Hid (Below w.heap.size w w3) := HB2.out.trans (hb3.mono HB2.out.size)
      clear hb3
      go_wp2_with fail
      go_ret
      exact ⟨rfl, HB3.out⟩
  · have n0 : 0 ≤ n := by omega
    have n60 : n ≤ 60 := by omega
    have w1' : 1 ≤ who := by omega
    have w8 : who ≤ 8 := by omega
    obtain ⟨m, rfl⟩ := Int.eq_ofNat_of_zero_le n0
    clear hbad
    go_wp2_with fail
    go_loopw [11, 12] (fun x i wr => RowLoop w m x i wr) (fun _ i _ => m - (intOf i).toNat)
    case atStart => exact ⟨0, ⟨#[]⟩, by omega, rfl, rfl, by decide, .inl ⟨rfl, rfl⟩, HB1⟩
    case round =>
      obtain ⟨k, p, hk, rfl, rfl, hp, HI, HBl⟩ := hrel
      have HGr := Lib.hid (HG.out.below HBl.out (Nat.le_refl _))
      clear HB1
      by_cases hkn : k < m
      · have hlt : (k : Int) < (m : Int) := by omega
        have hr := row_err HI.out w1' w8
        have HR := Lib.hid hr
        clear hr
        cases front with
        | false =>
          go_wp2_with fail
          refine (HB.out _ _ hp).mono ?_
          rintro e w2 ⟨rfl, hb2⟩
          have HG2 := Lib.hid (HGr.out.below hb2 (Nat.le_refl _))
          have HB2 : Hid (Below w.heap.size w w2) := HBl.out.trans (hb2.mono HBl.out.size)
          clear hb2
          by_cases he : betweenErr p ⟨#[]⟩ who = 0
          · obtain ⟨q1, q2, q3, q3'⟩ := row_behind HI.out he
            rw [he, show errV 0 = .nilIface from rfl]
            have HI2 := Lib.hid q1
            have q4 : ((strOf (betweenRes p ⟨#[]⟩ who)).size : Int) ≤ 2 + (k : Int) := by omega
            have q5 := inv_size q1
            clear he q1 q2
            generalize strOf (betweenRes p ⟨#[]⟩ who) = q at *
            by_cases hz : p.size = 0
            · have hz2 := isEmpty_of hz
              clear hz
              go_wp2_with fail
              go_roundw
              case rel => exact ⟨k + 1, q, by omega, by go_num, rfl, q5, HI2, HB2⟩
              case measure => simp [intOf]; omega
            · have hz2 := isEmpty_not hz
              clear hz
              go_wp2_with fail
              go_roundw
              case rel => exact ⟨k + 1, q, by omega, by go_num, rfl, q5, HI2, HB2⟩
              case measure => simp [intOf]; omega
          · have he8 : betweenErr p ⟨#[]⟩ who = 8 := by rcases HR.out.1 with h | h <;> omega
            rw [he8]
            clear he he8
            have hE8 : errV 8 = .iface 63 (.int .i64 8) := rfl
            rw [hE8]
            have HX := Lib.hid (HE.out w2 8 8 HG2.out)
            rw [hE8] at HX
            clear hE8
            go_wp2_with fail
            refine HX.out.mono ?_
            rintro e w3 ⟨rfl, hb3⟩
            have HB3 : Hid (Below w.heap.size w w3) := HB2.out.trans (hb3.mono HB2.out.size)
            clear hb3
            go_wp2_with fail
            go_ret
            exact ⟨rfl, HB3.out⟩
        | true =>
          go_wp2_with fail
          refine (HB.out _ _ hp).mono ?_
          rintro e w2 ⟨rfl, hb2⟩
          have HG2 := Lib.hid (HGr.out.below hb2 (Nat.le_refl _))
          have HB2 : Hid (Below w.heap.size w w2) := HBl.out.trans (hb2.mono HBl.out.size)
          clear hb2
          generalize strOf (betweenRes p ⟨#[]⟩ who) = q0
          generalize errV (betweenErr p ⟨#[]⟩ who) = E0
          go_wp2_with fail
          refine (HA.out _ _ hp).mono ?_
          rintro e w3 ⟨rfl, hb3⟩
          have HG3 := Lib.hid (HG2.out.below hb3 (Nat.le_refl _))
          have HB3 : Hid (Below w.heap.size w w3) := HB2.out.trans (hb3.mono HB2.out.size)
          clear hb3
          by_cases he : betweenErr ⟨#[]⟩ p who = 0
          · obtain ⟨q1, q2, q3⟩ := row_ahead HI.out he
            rw [he, show errV 0 = .nilIface from rfl]
            have HI2 := Lib.hid q1
            have q4 : ((strOf (betweenRes ⟨#[]⟩ p who)).size : Int) ≤ 2 + (k : Int) := by omega
            have q5 := inv_size q1
            have H3 := Lib.hid q3
            clear he q1 q2 q3
            generalize strOf (betweenRes ⟨#[]⟩ p who) = q at *
            by_cases hz : p.size = 0
            · have hz2 := isEmpty_of hz
              clear hz
              go_wp2_with fail
              go_roundw
              case rel => exact ⟨k + 1, q, by omega, by go_num, rfl, q5, HI2, HB3⟩
              case measure => simp [intOf]; omega
            · have hz2 := isEmpty_not hz
              have q6 := H3.out hz
              clear hz
              go_wp2_with fail
              go_roundw
              case rel => exact ⟨k + 1, q, by omega, by go_num, rfl, q5, HI2, HB3⟩
              case measure => simp [intOf]; omega
          · have he8 : betweenErr ⟨#[]⟩ p who = 8 := by rcases HR.out.2 with h | h <;> omega
            rw [he8]
            clear he he8
            have hE8 : errV 8 = .iface 63 (.int .i64 8) := rfl
            rw [hE8]
            have HX := Lib.hid (HE.out w3 8 8 HG3.out)
            rw [hE8] at HX
            clear hE8
            go_wp2_with fail
            refine HX.out.mono ?_
            rintro e w4 ⟨rfl, hb4⟩
            have HB4 : Hid (Below w.heap.size w w4) := HB3.out.trans (hb4.mono HB3.out.size)
            clear hb4
            go_wp2_with fail
            go_ret
            exact ⟨rfl, HB4.out⟩
      · have hd : decide ((k : Int) < (m : Int)) = false := by simp; omega
        go_wp2_with fail
        go_ret
        exact ⟨rfl, HBl.out⟩
set_option maxRecDepth 100000 in
theorem lifted (os : Os) (started : os.Started) (H : Type) (enc : TypeId × Value → H) :
    ReturnsInHanded {} Tryd.checked os 5 .any (fun w args => (Rows.placeRowSpec.pre enc Tryd.prog Tryd.f5 [] false w args ∧ laidMetH Tryd.prog Card.laid w) ∧ sizedMet enc Tryd.prog Tryd.f5 (OpenSpec.ofChange Rows.placeRowSpec) false w args)
      (Rows.placeRowSpec.post enc Tryd.prog Tryd.f5 false true false false) := by
  refine returnsInHanded_of_change_and (C := Tryd.checked) (X := fun w _ => laidMetH Tryd.prog Card.laid w) (fun _ _ _ hh h => h.of_heap hh) Tryd.own started (by kernel_rfl) Tryd.func5
    (ChangeSpec.witness_at (enc := enc) (C := Tryd.checked) (os := os) (X := fun w _ => laidMetH Tryd.prog Card.laid w) false (Card.laidWorld os) #[.int .i64 0, .int .i64 0, .bool false] 8 rfl (by kernel_rfl) (by kernel_rfl) (by kernel_rfl) (by kernel_rfl) (by kernel_rfl) (Card.laidWorld_met os _)) ?_
  intro W base args ds gs before hval0 hW _ hsz0 hL _
  have hval : ∀ (j : Nat) t v, Tryd.f5.params[j]? = some t → args[j]? = some v → Value.okWide Tryd.prog W .any base t v := hval0
  obtain ⟨p, q, hA0, _⟩ := id hW
  have hA : DataW.TrodAll enc Tryd.prog W 0 (fun _ => true) true Tryd.f5.params.toList args.toList ds p := hA0
  have hsz : (DataW.weightsEach Tryd.prog (Tryd.f5.params.toList ++ Rows.placeRowSpec.plain.varTypes Tryd.prog) (ds ++ gs)).all (· ≤ reachBytes) = true := hsz0
  rw [Tryd.params5] at hA hval hsz
  obtain ⟨v0, v1, v2, d0, d1, d2, p0, p1, p2, rfl, rfl, rfl, h0, h1, h2⟩ := trodAll_three hA
  obtain ⟨a0, rfl, rfl, rfl, wa0⟩ := open_int Tryd.underlying3 (hval 0 3 v0 rfl rfl) h0
  obtain ⟨a1, rfl, rfl, rfl, wa1⟩ := open_int Tryd.underlying3 (hval 1 3 v1 rfl rfl) h1
  obtain ⟨a2, rfl, rfl, rfl⟩ := open_bool Tryd.underlying4 (hval 2 4 v2 rfl rfl) h2
  refine (walk W a0 a1 a2 (Card.glob_of_laid hL)).mono fun e W' ⟨he, hb⟩ => ⟨_, he, ?_⟩
  exact law_post Tryd.laidOut (tb := 4) (by kernel_rfl) Tryd.underlying4 (by rw [Tryd.params5]; simp only [List.mem_cons, List.not_mem_nil, or_false]; rintro t (rfl | rfl | rfl) <;> exact ⟨by kernel_rfl, of_decide_eq_true (by kernel_rfl)⟩) rfl rfl hW hb

theorem holds : Rows.PlaceRowSaid :=
  OpenClaim.holds_of_wide 5 Tryd.f5 rfl rfl rfl rfl rfl rfl rfl ⟨rfl, rfl, rfl, rfl, rfl⟩ rfl rfl rfl rfl rfl (by kernel_rfl) Tryd.func5 (by kernel_rfl)
    (of_decide_eq_true (by kernel_rfl)) (by unfold Func.isWrapper; first | (rw [if_pos (by decide +kernel)]; kernel_rfl) | (rw [if_neg (by decide +kernel)]; exact ⟨rfl, rfl⟩))
    (fun os started H enc _ => lifted os started H enc)
theorem noStand : ∀ t ∈ Tryd.f5.params.toList, Tryd.prog.wantsStandIn t = false := by
  rw [Tryd.params5]
  simp only [List.mem_cons, List.not_mem_nil, or_false]
  rintro t (rfl | rfl | rfl) <;> kernel_rfl
theorem card_holds : Rows.PlaceRowCardSaid :=
  Claim7.holds_tied_plain_at .later [] [.handle] true Rows.placeRowCard.stood.harness true
    holds (fun _ h => by cases h) (by kernel_rfl) (fun _ h => by cases h) placeRow_row_tie rfl ⟨rfl, rfl⟩ (by kernel_rfl) rfl
    (fun f fn hf hfn => by
      obtain rfl : f = 5 := Option.some.inj ((show Tryd.prog.funcNamed Rows.placeRowRow.func = some 5 by kernel_rfl).symm.trans hf) |>.symm
      obtain rfl : fn = Tryd.f5 := (Option.some.inj (Tryd.func5.symm.trans hfn)).symm
      exact ⟨by kernel_rfl, fun j t ht => noStand t (by
        have := Array.mem_of_getElem? ht
        simpa using this)⟩)
    (by kernel_rfl)
#print axioms card_holds

end lawPlaceRow
end Go.Proofs.YtgninfpdomcobaaDoor

/- STEP BY STEP: the law DotSteps answers true. Conditions: the library's one variable holds what its text lays (the card ties it). -/
import Derived.Test.YtgninfpdomcobaaDoorVecAdd
import Derived.Test.YtgninfpdomcobaaDoorCard
namespace Go.Proofs.YtgninfpdomcobaaDoor
open Go.RowKit Go.WideShapes Go.ChangeShapes Go.ChangeAt
set_option linter.unusedVariables false
namespace lawDotSteps

/-- The vector after k steps of an author. -/
def vk (who : Int) (k : Nat) : List Int := (List.replicate 8 0).set (who - 1).toNat k
theorem vk_len (who : Int) (k : Nat) : (vk who k).length = 8 := by simp [vk]
theorem vk_zero (who : Int) : vk who 0 = List.replicate 8 0 := List.set_replicate_self
theorem vk_vec {who : Int} {k : Nat} (hk : k ≤ 9999) : vecErr (vk who k) = 0 := by
  unfold vecErr
  rw [if_neg (by rw [vk_len]; simp), if_neg]
  intro h
  obtain ⟨n, hn, hb⟩ := List.any_eq_true.1 h
  have : n = 0 ∨ n = k := by
    rcases List.mem_or_eq_of_mem_set hn with h1 | h1
    · left
      have := List.eq_of_mem_replicate h1
      exact this
    · exact .inr h1
  simp only [badN, Bool.or_eq_true, decide_eq_true_eq] at hb
  omega
theorem vk_nOf {who : Int} {k : Nat} {n : Int} (h1 : 1 ≤ who) (h2 : who ≤ 8) : nOf (vk who k) ⟨who, n⟩ = k := by
  unfold nOf vk
  simp only
  rw [List.getD, List.getElem?_set_self (by simp; omega)]
  rfl
theorem vk_vd {who : Int} {k : Nat} {n : Int} (hk : k ≤ 9999) (h1 : 1 ≤ who) (h2 : who ≤ 8) (n1 : 1 ≤ n) (n2 : n ≤ 9999) : vdErr (vk who k) ⟨who, n⟩ = 0 := by
  unfold vdErr
  rw [if_neg (fun h => h (vk_vec hk))]
  exact if_pos ⟨h1, h2, n1, n2⟩
theorem vk_add {who : Int} {k : Nat} (hk : k ≤ 60) (h1 : 1 ≤ who) (h2 : who ≤ 8) : addErr (vk who k) ⟨who, (k : Int) + 1⟩ = 0 := by
  unfold addErr
  rw [if_neg (fun h => h (vk_vd (by omega) h1 h2 (by omega) (by omega))), vk_nOf h1 h2, if_neg (by show ¬ ((k : Int) + 1 ≤ (k : Int)); omega), if_neg (by show ¬ ((k : Int) < (k : Int) + 1 - 1); omega)]
theorem vk_late {who : Int} {k : Nat} (hk : k ≤ 60) (h1 : 1 ≤ who) (h2 : who ≤ 8) : addErr (vk who k) ⟨who, (k : Int) + 1 + 1⟩ = 6 := by
  unfold addErr
  rw [if_neg (fun h => h (vk_vd (by omega) h1 h2 (by omega) (by omega))), vk_nOf h1 h2, if_neg (by show ¬ ((k : Int) + 1 + 1 ≤ (k : Int)); omega), if_pos (by show (k : Int) < (k : Int) + 1 + 1 - 1; omega)]
theorem vk_next {who : Int} {k : Nat} : addRes (vk who k) ⟨who, (k : Int) + 1⟩ = vk who (k + 1) := by
  unfold addRes vk
  simp
theorem vk_hasnot {who : Int} {k : Nat} (hk : k ≤ 60) (h1 : 1 ≤ who) (h2 : who ≤ 8) : hasRes (vk who k) ⟨who, (k : Int) + 1⟩ = false ∧ vdErr (vk who k) ⟨who, (k : Int) + 1⟩ = 0 := by
  refine ⟨?_, vk_vd (by omega) h1 h2 (by omega) (by omega)⟩
  unfold hasRes
  rw [vk_nOf h1 h2, show decide ((⟨who, (k : Int) + 1⟩ : LDot).n ≤ (k : Int)) = false from decide_eq_false (by show ¬ ((k : Int) + 1 ≤ (k : Int)); omega), Bool.and_false]
theorem vk_has {who : Int} {k : Nat} (h0 : 0 < k) (hk : k ≤ 60) (h1 : 1 ≤ who) (h2 : who ≤ 8) : hasRes (vk who k) ⟨who, (k : Int)⟩ = true ∧ vdErr (vk who k) ⟨who, (k : Int)⟩ = 0 := by
  have h := vk_vd (n := (k : Int)) (show k ≤ 9999 by omega) h1 h2 (by omega) (by omega)
  refine ⟨?_, h⟩
  unfold hasRes
  rw [vk_nOf h1 h2, h]
  simp

theorem zero_vd : vdErr (List.replicate 8 0) ⟨0, 0⟩ = 1 := by decide +kernel
theorem reads_zero (w : World) : Reads (w.alloc (.cells #[.int .i64 0, .int .i64 0, .int .i64 0, .int .i64 0, .int .i64 0, .int .i64 0, .int .i64 0, .int .i64 0] 3)) (w.alloc (.cells #[.int .i64 0, .int .i64 0, .int .i64 0, .int .i64 0, .int .i64 0, .int .i64 0, .int .i64 0, .int .i64 0] 3)).heap.size 1 (some ⟨w.heap.size, 0, none⟩) 8 (ints (List.replicate 8 0)) := by
  refine ⟨by simp [ints], fun _ => ⟨_, rfl, by simp, fun j u hu => ?_⟩⟩
  have h := (Blk.new w 3 #[.int .i64 0, .int .i64 0, .int .i64 0, .int .i64 0, .int .i64 0, .int .i64 0, .int .i64 0, .int .i64 0]).cell j
  have e1 : (⟨w.heap.size, 0, none⟩ : Addr).add j = ⟨w.heap.size, j, none⟩ := by
    unfold Addr.add
    by_cases hj : j = 0 <;> simp [hj]
  rw [e1, h]
  rw [show ints (List.replicate 8 0) = (#[.int .i64 0, .int .i64 0, .int .i64 0, .int .i64 0, .int .i64 0, .int .i64 0, .int .i64 0, .int .i64 0] : Array Value).toList from rfl, Array.getElem?_toList] at hu
  exact hu
def StepLoop (w : World) (who : Int) (n : Nat) (v i : Value) (wr : World) : Prop :=
  ∃ (k c : Nat) (V : Option Addr), k ≤ n ∧ i = .int .i64 ((k : Int) + 1) ∧ v = .slice V 8 c ∧ Hid (Reads wr wr.heap.size 1 V 8 (ints (vk who k))) ∧ Hid (Below w.heap.size w wr)

set_option maxRecDepth 100000 in
set_option maxHeartbeats 4000000 in
theorem walk (w : World) (who n : Int) (hg : Glob w) :
    Calls Tryd.prog 3 #[.int .i64 who, .int .i64 n] w (CheckPost w (.bool true)) := by
  have HG := Lib.hid hg
  have HE := Lib.hid (fun w k e h => error_any w k e h)
  have HH := Lib.hid (fun w A c l d h => has_any w A c l d h)
  have HA := Lib.hid (fun w A c l d h => add_any w A c l d h)
  have HB0 : Hid (Below w.heap.size w (w.alloc (.cells #[.int .i64 0, .int .i64 0, .int .i64 0, .int .i64 0, .int .i64 0, .int .i64 0, .int .i64 0, .int .i64 0] 3))) := (Below.refl _ _).alloc (Nat.le_refl _) _
  have HG0 := Lib.hid (hg.alloc (.cells #[.int .i64 0, .int .i64 0, .int .i64 0, .int .i64 0, .int .i64 0, .int .i64 0, .int .i64 0, .int .i64 0] 3))
  have HR0 := Lib.hid (reads_zero w)
  have HZ : Hid (∀ k, (vk who k).length = 8) := vk_len who
  clear hg
  by_cases hbad : who < 1 ∨ 8 < who ∨ n < 0 ∨ 50 < n
  · have HH0 := Lib.hid (has_any _ _ 8 (List.replicate 8 0) ⟨0, 0⟩ HR0.out (by simp))
    rcases (show who < 1 ∨ (1 ≤ who ∧ 8 < who) ∨ (1 ≤ who ∧ who ≤ 8 ∧ n < 0) ∨ (1 ≤ who ∧ who ≤ 8 ∧ 0 ≤ n ∧ 50 < n) by omega) with h | h | h | h
    all_goals
      clear hbad
      go_enter Tryd.func3, Tryd.ntmps3
      go_wp2_with fail
      refine HH0.out.mono ?_
      rintro e w2 ⟨rfl, hb2⟩
      rw [zero_vd]
      have HG2 := Lib.hid (HG0.out.below hb2 (Nat.le_refl _))
      have HB2 : Hid (Below w.heap.size w w2) := HB0.out.trans (hb2.mono HB0.out.size)
      clear hb2
      generalize hasRes (List.replicate 8 0) ⟨0, 0⟩ = b0
      go_wp2_with fail
      refine (HE.out _ 1 1 HG2.out).mono ?_
      rintro e w3 ⟨rfl, hb3⟩
      have HB3 : Hid (Below w.heap.size w w3) := HB2.out.trans (hb3.mono HB2.out.size)
      clear hb3
      go_wp2_with fail
      go_ret
      exact ⟨rfl, HB3.out⟩
  · have h1 : 1 ≤ who := by omega
    have h2 : who ≤ 8 := by omega
    obtain ⟨m, rfl⟩ := Int.eq_ofNat_of_zero_le (show 0 ≤ n by omega)
    have hm : m ≤ 50 := by omega
    clear hbad
    go_enter Tryd.func3, Tryd.ntmps3
    go_wp2_with fail
    go_loopw [5, 8] (fun v i wr => StepLoop w who m v i wr) (fun _ i _ => m + 1 - (intOf i).toNat)
    case atStart => exact ⟨0, 8, _, by omega, rfl, rfl, by rw [vk_zero]; exact HR0, HB0⟩
    case round =>
      obtain ⟨k, c, V, hk, rfl, rfl, HR, HB⟩ := hrel
      have HGr := Lib.hid (HG.out.below HB.out (Nat.le_refl _))
      clear HR0 HB0 HG0
      by_cases hkm : k < m
      · have hle : (k : Int) + 1 ≤ (m : Int) := by omega
        have HA1 := Lib.hid (add_any wr V c (vk who k) ⟨who, (k : Int) + 1⟩ (by rw [vk_len]; exact HR.out) (by rw [vk_len]; omega))
        have E1 := Lib.hid (vk_add (who := who) (k := k) (by omega) h1 h2)
        have E2 := Lib.hid (vk_late (who := who) (k := k) (by omega) h1 h2)
        rw [vk_len] at HA1
        go_wp2_with fail
        refine HA1.out.mono ?_
        intro e w2 hp
        unfold AddPost at hp
        rw [if_pos E1.out] at hp
        obtain ⟨V2, c2, rfl, hO, hb2⟩ := hp
        rw [vk_len] at hO ⊢
        rw [vk_next] at hO
        have HO := Lib.hid hO.reads
        have HG2 := Lib.hid (HGr.out.below hb2 (Nat.le_refl _))
        have HB2 : Hid (Below w.heap.size w w2) := HB.out.trans (hb2.mono HB.out.size)
        have HR2 := Lib.hid ((HR.out.below hb2).more hb2.size)
        have HA2 := Lib.hid (add_any w2 V c (vk who k) ⟨who, (k : Int) + 1 + 1⟩ (by rw [vk_len]; exact HR2.out) (by rw [vk_len]; omega))
        rw [vk_len] at HA2
        clear hO hb2
        go_wp2_with fail
        refine HA2.out.mono ?_
        intro e w3 hp
        unfold AddPost at hp
        rw [E2.out, if_neg (by decide)] at hp
        obtain ⟨rfl, hb3⟩ := hp
        have HG3 := Lib.hid (HG2.out.below hb3 (Nat.le_refl _))
        have HB3 : Hid (Below w.heap.size w w3) := HB2.out.trans (hb3.mono HB2.out.size)
        have HO3 := Lib.hid ((HO.out.below hb3).more hb3.size)
        have HX := Lib.hid (error_any w3 6 6 HG3.out)
        clear hb3
        have hE6 : errV 6 = .iface 63 (.int .i64 6) := rfl
        rw [hE6] at HX ⊢
        clear hE6
        go_wp2_with fail
        refine HX.out.mono ?_
        rintro e w4 ⟨rfl, hb4⟩
        rw [show ((6 : Int) == 6) = true from rfl]
        have HB4 : Hid (Below w.heap.size w w4) := HB3.out.trans (hb4.mono HB3.out.size)
        have HO4 := Lib.hid ((HO3.out.below hb4).more hb4.size)
        clear hb4
        go_wp2_with fail
        go_roundw
        case rel => exact ⟨k + 1, c2, V2, by omega, by go_num, rfl, HO4, HB4⟩
        case measure => simp [intOf]; omega
      · obtain rfl : k = m := by omega
        have hd : decide ((k : Int) + 1 ≤ (k : Int)) = false := by simp; omega
        have E1 := Lib.hid (vk_hasnot (who := who) (k := k) (by omega) h1 h2)
        have HH1 := Lib.hid (has_any wr V c (vk who k) ⟨who, (k : Int) + 1⟩ (by rw [vk_len]; exact HR.out) (by rw [vk_len]; omega))
        rw [vk_len] at HH1
        go_wp2_with fail
        refine HH1.out.mono ?_
        rintro e w2 ⟨rfl, hb2⟩
        rw [E1.out.1, E1.out.2, show errV 0 = .nilIface from rfl]
        have HB2 : Hid (Below w.heap.size w w2) := HB.out.trans (hb2.mono HB.out.size)
        have HR2 := Lib.hid ((HR.out.below hb2).more hb2.size)
        clear hb2
        by_cases hk0 : k = 0
        · subst hk0
          go_wp2_with fail
          go_ret
          exact ⟨rfl, HB2.out⟩
        · have g0 : ((k : Int) == 0) = false := by simp; omega
          have E2 := Lib.hid (vk_has (who := who) (k := k) (by omega) (by omega) h1 h2)
          have HH2 := Lib.hid (has_any w2 V c (vk who k) ⟨who, (k : Int)⟩ (by rw [vk_len]; exact HR2.out) (by rw [vk_len]; omega))
          rw [vk_len] at HH2
          clear hk0
          go_wp2_with fail
          refine HH2.out.mono ?_
          rintro e w3 ⟨rfl, hb3⟩
          rw [E2.out.1, E2.out.2, show errV 0 = .nilIface from rfl]
          have HB3 : Hid (Below w.heap.size w w3) := HB2.out.trans (hb3.mono HB2.out.size)
          clear hb3
          go_wp2_with fail
          go_ret
          exact ⟨rfl, HB3.out⟩
set_option maxRecDepth 100000 in
theorem lifted (os : Os) (started : os.Started) (H : Type) (enc : TypeId × Value → H) :
    ReturnsInHanded {} Tryd.checked os 3 .any (fun w args => (Rows.dotStepsSpec.pre enc Tryd.prog Tryd.f3 [] false w args ∧ laidMetH Tryd.prog Card.laid w) ∧ sizedMet enc Tryd.prog Tryd.f3 (OpenSpec.ofChange Rows.dotStepsSpec) false w args)
      (Rows.dotStepsSpec.post enc Tryd.prog Tryd.f3 false true false false) := by
  refine returnsInHanded_of_change_and (C := Tryd.checked) (X := fun w _ => laidMetH Tryd.prog Card.laid w) (fun _ _ _ hh h => h.of_heap hh) Tryd.own started (by kernel_rfl) Tryd.func3
    (ChangeSpec.witness_at (enc := enc) (C := Tryd.checked) (os := os) (X := fun w _ => laidMetH Tryd.prog Card.laid w) false (Card.laidWorld os) #[.int .i64 0, .int .i64 0] 8 rfl (by kernel_rfl) (by kernel_rfl) (by kernel_rfl) (by kernel_rfl) (by kernel_rfl) (Card.laidWorld_met os _)) ?_
  intro W base args ds gs before hval0 hW _ hsz0 hL _
  have hval : ∀ (j : Nat) t v, Tryd.f3.params[j]? = some t → args[j]? = some v → Value.okWide Tryd.prog W .any base t v := hval0
  obtain ⟨p, q, hA0, _⟩ := id hW
  have hA : DataW.TrodAll enc Tryd.prog W 0 (fun _ => true) true Tryd.f3.params.toList args.toList ds p := hA0
  have hsz : (DataW.weightsEach Tryd.prog (Tryd.f3.params.toList ++ Rows.dotStepsSpec.plain.varTypes Tryd.prog) (ds ++ gs)).all (· ≤ reachBytes) = true := hsz0
  rw [Tryd.params3] at hA hval hsz
  obtain ⟨v0, v1, d0, d1, p0, p1, rfl, rfl, rfl, h0, h1⟩ := trodAll_two hA
  obtain ⟨a0, rfl, rfl, rfl, wa0⟩ := open_int Tryd.underlying3 (hval 0 3 v0 rfl rfl) h0
  obtain ⟨a1, rfl, rfl, rfl, wa1⟩ := open_int Tryd.underlying3 (hval 1 3 v1 rfl rfl) h1
  refine (walk W a0 a1 (Card.glob_of_laid hL)).mono fun e W' ⟨he, hb⟩ => ⟨_, he, ?_⟩
  exact law_post Tryd.laidOut (tb := 4) (by kernel_rfl) Tryd.underlying4 (by rw [Tryd.params3]; simp only [List.mem_cons, List.not_mem_nil, or_false]; rintro t (rfl | rfl) <;> exact ⟨by kernel_rfl, of_decide_eq_true (by kernel_rfl)⟩) rfl rfl hW hb

theorem holds : Rows.DotStepsSaid :=
  OpenClaim.holds_of_wide 3 Tryd.f3 rfl rfl rfl rfl rfl rfl rfl ⟨rfl, rfl, rfl, rfl, rfl⟩ rfl rfl rfl rfl rfl (by kernel_rfl) Tryd.func3 (by kernel_rfl)
    (of_decide_eq_true (by kernel_rfl)) (by unfold Func.isWrapper; first | (rw [if_pos (by decide +kernel)]; kernel_rfl) | (rw [if_neg (by decide +kernel)]; exact ⟨rfl, rfl⟩))
    (fun os started H enc _ => lifted os started H enc)
theorem noStand : ∀ t ∈ Tryd.f3.params.toList, Tryd.prog.wantsStandIn t = false := by
  rw [Tryd.params3]
  simp only [List.mem_cons, List.not_mem_nil, or_false]
  rintro t (rfl | rfl) <;> kernel_rfl
theorem card_holds : Rows.DotStepsCardSaid :=
  Claim7.holds_tied_plain_at .later [] [.handle] true Rows.dotStepsCard.stood.harness true
    holds (fun _ h => by cases h) (by kernel_rfl) (fun _ h => by cases h) dotSteps_row_tie rfl ⟨rfl, rfl⟩ (by kernel_rfl) rfl
    (fun f fn hf hfn => by
      obtain rfl : f = 3 := Option.some.inj ((show Tryd.prog.funcNamed Rows.dotStepsRow.func = some 3 by kernel_rfl).symm.trans hf) |>.symm
      obtain rfl : fn = Tryd.f3 := (Option.some.inj (Tryd.func3.symm.trans hfn)).symm
      exact ⟨by kernel_rfl, fun j t ht => noStand t (by
        have := Array.mem_of_getElem? ht
        simpa using this)⟩)
    (by kernel_rfl)
#print axioms card_holds

end lawDotSteps
end Go.Proofs.YtgninfpdomcobaaDoor

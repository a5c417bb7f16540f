/- FORTY AND NO MORE: the law MarksFull answers true. Conditions: the library's one variable holds what its text lays (the card ties it). -/
import Derived.Test.YtikbcpljhjfoiaaDoorMarkDel
import Derived.Test.YtikbcpljhjfoiaaDoorSeenLaw
import Derived.Test.YtikbcpljhjfoiaaDoorMarkPlaces
import Derived.Test.YtikbcpljhjfoiaaDoorCard
namespace Go.Proofs.YtikbcpljhjfoiaaDoor
open Go.RowKit Go.WideShapes Go.ChangeShapes Go.ChangeAt
set_option linter.unusedVariables false
namespace lawMarksFull
def nb : ByteArray := ⟨#[110, 98]⟩
def mk (i : Nat) : LMark := ⟨nb, ⟨1, (i : Int) + 1⟩⟩
def fullM (k : Nat) : List LMark := (List.range k).map mk
theorem full_len (k : Nat) : (fullM k).length = k := by simp [fullM]
theorem full_at {k j : Nat} (h : j < (fullM k).length) : (fullM k)[j] = mk j := by simp [fullM]
theorem full_succ (k : Nat) : fullM (k + 1) = fullM k ++ [mk k] := by unfold fullM; rw [List.range_succ, List.map_append]; rfl
theorem nb_ok : placeErr nb = 0 := by decide +kernel
theorem mk_ok {j : Nat} (h : j < 100) : markErr (mk j) = 0 := by
  unfold markErr
  rw [if_neg (fun h => h nb_ok)]
  unfold dotErr mk
  rw [if_pos]
  simp only
  omega
theorem mk_lt {i j : Nat} (h : i < j) : ltM (mk i) (mk j) := .inr ⟨rfl, .inr ⟨rfl, by show (i : Int) + 1 < (j : Int) + 1; omega⟩⟩
theorem full_ok {k : Nat} (h : k ≤ 40) : MarksOk (fullM k) := by
  refine ⟨by rw [full_len]; exact h, fun x hx => ?_, ?_⟩
  · obtain ⟨j, hj, rfl⟩ := List.getElem_of_mem hx
    rw [full_at]
    rw [full_len] at hj
    exact mk_ok (by omega)
  · rw [List.pairwise_iff_getElem]
    intro i j hi hj hij
    rw [full_at, full_at]
    exact mk_lt hij
theorem full_ahead {m k : Nat} (h : m ≤ k) : aheadM (fullM m) (mk k) = m ∧ hasM (fullM m) (mk k) = false := by
  have ha : aheadM (fullM m) (mk k) = m := aheadM_of (by rw [full_len]; omega) (fun j hj hjm => by rw [full_at]; exact mk_lt (by omega)) (fun j hj hmj => by rw [full_len] at hj; omega)
  refine ⟨ha, ?_⟩
  unfold hasM
  rw [ha, List.getElem?_eq_none (by rw [full_len]; omega)]
theorem full_cut {k : Nat} (h : k < 40) : cutErr (fullM k) (mk k) = 0 ∧ giveM (cutErr (fullM k) (mk k)) (cutRes (fullM k) (mk k)) = fullM (k + 1) := by
  obtain ⟨h1, h2⟩ := full_ahead (m := k) (k := k) (by omega)
  have h3 : cutErr (fullM k) (mk k) = 0 := cut_zero (full_ok (by omega)) (mk_ok (by omega)) (.inr (by rw [full_len]; exact h))
  refine ⟨h3, ?_⟩
  rw [h3, giveM, if_pos rfl]
  unfold cutRes
  rw [if_neg (by rw [h2]; decide), h1, cutPut, List.take_of_length_le (by rw [full_len]; omega), List.drop_of_length_le (by rw [full_len]; omega), full_succ]
theorem full_more {k : Nat} (h0 : 40 ≤ k) (h : k < 60) : cutErr (fullM 40) (mk k) = 4 := by
  obtain ⟨h1, h2⟩ := full_ahead (m := 40) (k := k) (by omega)
  unfold cutErr
  rw [if_neg (fun h => h (marks_zero (full_ok (by omega)))), if_neg (fun hh => hh (mk_ok (by omega))), if_neg (by rw [h2]; decide), if_pos (by rw [full_len]; omega)]
theorem full_sized (k : Nat) : MSized (fullM k) := by
  intro x hx
  obtain ⟨j, hj, rfl⟩ := List.getElem_of_mem hx
  rw [full_at]
  show nb.size ≤ _
  decide
theorem full_seen (k : Nat) : (seenAt (fullM k) nb).length = k := by
  unfold seenAt
  rw [List.length_map, List.filter_eq_self.2, full_len]
  intro x hx
  obtain ⟨j, hj, rfl⟩ := List.getElem_of_mem hx
  rw [full_at]
  exact decide_eq_true rfl
theorem full_join (k : Nat) : joinRes (fullM k) nb (seenAt (fullM k) nb) = [] := by
  have h := join_len (fullM k) nb
  rw [full_seen, full_len] at h
  exact List.eq_nil_of_length_eq_zero (by omega)
theorem full_places (k : Nat) : (places (fullM k)).length = if k = 0 then 0 else 1 := by
  have step : ∀ j, (fullM (j + 1)).foldl plStep [] = [nb] := by
    intro j
    induction j with
    | zero => rfl
    | succ j ih =>
      rw [full_succ, List.foldl_append, ih]
      rfl
  unfold places
  cases k with
  | zero => rfl
  | succ k => rw [step k]; rfl
structure Ends (k : Nat) (l : List LMark) (s : List LDot) : Prop where
  ok : MarksOk l
  len : l.length = k
  err : marksErr l = 0
  serr : seenErr l nb = 0
  seen : seenAt l nb = s
  slen : s.length = k
  jerr : joinErr l nb s = 0
  jres : joinRes l nb s = []
  pl : (places l).length = if k = 0 then 0 else 1
theorem ends {k : Nat} (h : k ≤ 40) : Ends k (fullM k) (seenAt (fullM k) nb) := by
  have ok := full_ok h
  refine ⟨ok, full_len k, marks_zero ok, ?_, rfl, full_seen k, ?_, full_join k, full_places k⟩
  · unfold seenErr; rw [if_neg (fun x => x (marks_zero ok)), nb_ok]
  · unfold joinErr
    rw [if_neg (fun x => x (marks_zero ok)), if_neg (fun x => x nb_ok), if_neg (by rw [full_seen]; omega)]
    exact riseD_zero (seenAt_ok ok _) (seenAt_pair ok.rising _)
def FLoop (w : World) (n : Nat) (v i : Value) (wr : World) : Prop :=
  ∃ (k c : Nat) (V : Option Addr), k ≤ n ∧ i = .int .i64 ((k : Int) + 1) ∧ v = .slice V (min k 40) c ∧ Hid (Reads wr wr.heap.size 3 V (min k 40) (mcells (fullM (min k 40)))) ∧ Hid (Below w.heap.size w wr)
set_option maxRecDepth 100000 in
set_option maxHeartbeats 4000000 in
theorem walk (w : World) (n : Int) (hg : Glob w) :
    Calls Tryd.prog 12 #[.int .i64 n] w (CheckPost w (.bool true)) := by
  have HG := Lib.hid hg
  clear hg
  by_cases hn : 0 ≤ n ∧ n ≤ 50
  · obtain ⟨n1, n2⟩ := hn
    obtain ⟨m, rfl⟩ := Int.eq_ofNat_of_zero_le n1
    have m2 : m ≤ 50 := by omega
    go_enter Tryd.func12, Tryd.ntmps12
    go_wp2_with fail
    go_loopw [3, 4] (fun v i wr => FLoop w m v i wr) (fun _ i _ => m + 1 - (intOf i).toNat)
    case atStart => exact ⟨0, 0, none, by omega, rfl, rfl, Reads.none_, Below.refl _ _⟩
    case round =>
      obtain ⟨k, c, V, hk, rfl, rfl, HR, HB⟩ := hrel
      have HGr := Lib.hid (HG.out.below HB.out (Nat.le_refl _))
      by_cases hkm : k < m
      · have hlt : (k : Int) + 1 ≤ (m : Int) := by omega
        have HMN : Hid (k < 40 → min k 40 = k) := fun h => Nat.min_eq_left (by omega)
        have HMX : Hid (40 ≤ k → min k 40 = 40) := fun h => Nat.min_eq_right h
        have hmin : min k 40 ≤ 40 := Nat.min_le_right _ _
        generalize min k 40 = x at *
        have HC := Lib.hid (cut_any wr V c (fullM x) (mk k) (by rw [full_len]; exact HR.out) (full_sized _) (by rw [full_len]; omega) (show nb.size ≤ 9223372036854775807 by decide))
        rw [full_len] at HC
        by_cases h3 : k < 40
        · obtain rfl : x = k := HMN.out h3
          have E := Lib.hid (full_cut h3)
          have g3 : decide ((x : Int) + 1 ≤ 40) = true := decide_eq_true (by omega)
          have g4 : decide ((40 : Int) < (x : Int) + 1) = false := decide_eq_false (by omega)
          have HM2 : Hid (min (x + 1) 40 = x + 1) := Nat.min_eq_left (by omega)
          clear hmin HMN HMX h3
          go_wp2_with fail
          refine HC.out.mono ?_
          rintro e w2 ⟨V2, c2, rfl, hO, hb2⟩
          rw [E.out.2, full_len] at hO ⊢
          rw [E.out.1, show errV 0 = .nilIface from rfl]
          have HO := Lib.hid hO.reads
          have HG2 := Lib.hid (HGr.out.below hb2 (Nat.le_refl _))
          have HB2 : Hid (Below w.heap.size w w2) := HB.out.trans (hb2.mono HB.out.size)
          clear hO hb2 HC
          go_wp2_with fail
          refine (error_any _ 0 4 HG2.out).mono ?_
          rintro e w3 ⟨rfl, hb3⟩
          have HO3 := Lib.hid ((HO.out.below hb3).more hb3.size)
          have HB3 : Hid (Below w.heap.size w w3) := HB2.out.trans (hb3.mono HB2.out.size)
          clear hb3
          rw [show ((0 : Int) == 4) = false from rfl]
          go_wp2_with fail
          go_roundw
          case rel => exact ⟨x + 1, c2, V2, by omega, by go_num, by rw [HM2.out], by rw [HM2.out]; exact HO3, HB3⟩
          case measure => simp [intOf]; omega
        · obtain rfl : x = 40 := HMX.out (by omega)
          have E := Lib.hid (full_more (k := k) (by omega) (by omega))
          have g3 : decide ((k : Int) + 1 ≤ 40) = false := decide_eq_false (by omega)
          have g4 : decide ((40 : Int) < (k : Int) + 1) = true := decide_eq_true (by omega)
          have HM2 : Hid (min (k + 1) 40 = 40) := Nat.min_eq_right (by omega)
          clear hmin HMN HMX h3
          go_wp2_with fail
          refine HC.out.mono ?_
          rintro e w2 ⟨V2, c2, rfl, hO, hb2⟩
          rw [E.out, giveM_bad (by decide)]
          have HG2 := Lib.hid (HGr.out.below hb2 (Nat.le_refl _))
          have HB2 : Hid (Below w.heap.size w w2) := HB.out.trans (hb2.mono HB.out.size)
          have HO := Lib.hid ((HR.out.below hb2).more hb2.size)
          have HX := Lib.hid (error_any w2 4 4 HG2.out)
          clear hO hb2 HC
          rw [errV_ne (by decide)] at HX ⊢
          go_wp2_with fail
          refine HX.out.mono ?_
          rintro e w3 ⟨rfl, hb3⟩
          have HO3 := Lib.hid ((HO.out.below hb3).more hb3.size)
          have HB3 : Hid (Below w.heap.size w w3) := HB2.out.trans (hb3.mono HB2.out.size)
          clear hb3
          rw [show ((4 : Int) == 4) = true from rfl]
          go_wp2_with fail
          go_roundw
          case rel => exact ⟨k + 1, c, V, by omega, by go_num, by rw [HM2.out], by rw [HM2.out]; exact HO3, HB3⟩
          case measure => simp [intOf]; omega
      · obtain rfl : k = m := by omega
        have hd : decide ((k : Int) + 1 ≤ (k : Int)) = false := by simp; omega
        have hmin : min k 40 ≤ 40 := Nat.min_le_right _ _
        have hz : Hid (min k 40 = 0 ↔ k = 0) := by show _ ↔ _; omega
        have en := ends hmin
        generalize min k 40 = x at *
        have HSZ := Lib.hid (full_sized x)
        generalize hX : fullM x = X at *
        generalize hs : seenAt X nb = s at *
        have EN := Lib.hid en
        have hxl := en.len
        have hsl := en.slen
        subst hxl
        have e1 : ((s.length : Int) == (X.length : Int)) = true := by rw [beq_iff_eq]; omega
        have hs40 : s.length ≤ 40 := by omega
        clear hsl
        have hfw := en.ok.few
        have KP := Lib.hid (fun W hb => places_any W V c X ((HR.out.below hb).more hb.size) HSZ.out (by omega))
        have KS := Lib.hid (fun W hb => mseen_any W V c X nb ((HR.out.below hb).more hb.size) HSZ.out (by omega) (by decide))
        have HSE : Hid (giveD (seenErr X nb) (seenAt X nb) = s) := by show _ = _; rw [en.serr, giveD, if_pos rfl, hs]
        have HJE : Hid (giveM (joinErr X nb s) (joinRes X nb s) = []) := by show _ = _; rw [en.jerr, giveM, if_pos rfl, en.jres]
        have HPE : Hid (giveT (marksErr X) (places X) = places X) := by show _ = _; rw [en.err, giveT, if_pos rfl]
        have HPL := Lib.hid en.pl
        clear en hX hs
        go_wp2_with fail
        refine (KP.out _ (Below.refl _ _)).mono ?_
        rintro e w2 ⟨Vp, cp, rfl, hO, hb⟩
        rw [HPE.out, EN.out.err, show errV 0 = .nilIface from rfl]
        have HB2 := Lib.hid hb
        clear hO hb
        go_wp2_with fail
        refine (KS.out _ HB2.out).mono ?_
        rintro e w3 ⟨Vs, cs, rfl, hO, hb⟩
        rw [HSE.out] at hO ⊢
        rw [EN.out.serr, show errV 0 = .nilIface from rfl]
        have HB3 := Lib.hid (HB2.out.trans (hb.mono HB2.out.size))
        have HSR := Lib.hid hO.reads
        clear hO hb
        go_wp2_with fail
        refine (join_any _ V c X nb Vs cs s ((HR.out.below HB3.out).more HB3.out.size) HSZ.out (by omega) (by decide) HSR.out (by omega)).mono ?_
        rintro e w4 ⟨Vj, cj, rfl, hO, hb⟩
        rw [HJE.out, EN.out.jerr, show errV 0 = .nilIface from rfl]
        have HB4 : Hid (Below w.heap.size w w4) := HB.out.trans ((HB3.out.trans (hb.mono HB3.out.size)).mono HB.out.size)
        clear hO hb
        have hpl := HPL.out
        generalize (places X).length = pn at *
        by_cases hk0 : k = 0
        · have hx0 : X.length = 0 := hz.out.2 hk0
          rw [if_pos hx0] at hpl
          have hs0 : s.length = 0 := by rw [beq_iff_eq] at e1; omega
          subst hpl hk0
          clear hz e1
          go_wp2_with fail
          go_ret
          exact ⟨rfl, HB4.out⟩
        · have hx0 : ¬ X.length = 0 := fun h => hk0 (hz.out.1 h)
          rw [if_neg hx0] at hpl
          subst hpl
          have e2 : ((k : Int) == 0) = false := by rw [beq_eq_false_iff_ne]; omega
          clear hz
          go_wp2_with fail
          go_ret
          exact ⟨rfl, HB4.out⟩
  · by_cases h1 : n < 0
    · clear hn
      go_enter Tryd.func12, Tryd.ntmps12
      go_wp2_with fail
      go_ret
      exact ⟨rfl, Below.refl _ _⟩
    · have h2 : 50 < n := by omega
      clear hn
      go_enter Tryd.func12, Tryd.ntmps12
      go_wp2_with fail
      go_ret
      exact ⟨rfl, Below.refl _ _⟩
set_option maxRecDepth 100000 in
theorem lifted (os : Os) (started : os.Started) (H : Type) (enc : TypeId × Value → H) :
    ReturnsInHanded {} Tryd.checked os 12 .any (fun w args => (Rows.marksFullSpec.pre enc Tryd.prog Tryd.f12 [] false w args ∧ laidMetH Tryd.prog Card.laid w) ∧ sizedMet enc Tryd.prog Tryd.f12 (OpenSpec.ofChange Rows.marksFullSpec) false w args)
      (Rows.marksFullSpec.post enc Tryd.prog Tryd.f12 false true false false) := by
  refine returnsInHanded_of_change_and (C := Tryd.checked) (X := fun w _ => laidMetH Tryd.prog Card.laid w) (fun _ _ _ hh h => h.of_heap hh) Tryd.own started (by kernel_rfl) Tryd.func12
    (ChangeSpec.witness_at (enc := enc) (C := Tryd.checked) (os := os) (X := fun w _ => laidMetH Tryd.prog Card.laid w) false (Card.laidWorld os) #[.int .i64 0] 8 rfl (by kernel_rfl) (by kernel_rfl) (by kernel_rfl) (by kernel_rfl) (by kernel_rfl) (Card.laidWorld_met os _)) ?_
  intro W base args ds gs before hval0 hW _ hsz0 hL _
  have hval : ∀ (j : Nat) t v, Tryd.f12.params[j]? = some t → args[j]? = some v → Value.okWide Tryd.prog W .any base t v := hval0
  obtain ⟨p, q, hA0, _⟩ := id hW
  have hA : DataW.TrodAll enc Tryd.prog W 0 (fun _ => true) true Tryd.f12.params.toList args.toList ds p := hA0
  have hsz : (DataW.weightsEach Tryd.prog (Tryd.f12.params.toList ++ Rows.marksFullSpec.plain.varTypes Tryd.prog) (ds ++ gs)).all (· ≤ reachBytes) = true := hsz0
  rw [Tryd.params12] at hA hval hsz
  obtain ⟨v0, d0, rfl, rfl, h0⟩ := trodAll_one hA
  obtain ⟨a0, rfl, rfl, rfl, wa0⟩ := open_int Tryd.underlying3 (hval 0 3 v0 rfl rfl) h0
  refine (walk W a0 (Card.glob_of_laid hL)).mono fun e W' ⟨he, hb⟩ => ⟨_, he, ?_⟩
  exact law_post Tryd.laidOut (tb := 4) (by kernel_rfl) Tryd.underlying4 (by rw [Tryd.params12]; simp only [List.mem_cons, List.not_mem_nil, or_false]; rintro t (rfl) <;> exact ⟨by kernel_rfl, of_decide_eq_true (by kernel_rfl)⟩) rfl rfl hW hb

theorem holds : Rows.MarksFullSaid :=
  OpenClaim.holds_of_wide 12 Tryd.f12 rfl rfl rfl rfl rfl rfl rfl ⟨rfl, rfl, rfl, rfl, rfl⟩ rfl rfl rfl rfl rfl (by kernel_rfl) Tryd.func12 (by kernel_rfl)
    (of_decide_eq_true (by kernel_rfl)) (by unfold Func.isWrapper; first | (rw [if_pos (by decide +kernel)]; kernel_rfl) | (rw [if_neg (by decide +kernel)]; exact ⟨rfl, rfl⟩))
    (fun os started H enc _ => lifted os started H enc)
theorem noStand : ∀ t ∈ Tryd.f12.params.toList, Tryd.prog.wantsStandIn t = false := by
  rw [Tryd.params12]
  simp only [List.mem_cons, List.not_mem_nil, or_false]
  rintro t (rfl) <;> kernel_rfl
theorem card_holds : Rows.MarksFullCardSaid :=
  Claim7.holds_tied_plain_at .later [] [.handle] true Rows.marksFullCard.stood.harness true
    holds (fun _ h => by cases h) (by kernel_rfl) (fun _ h => by cases h) marksFull_row_tie rfl ⟨rfl, rfl⟩ (by kernel_rfl) rfl
    (fun f fn hf hfn => by
      obtain rfl : f = 12 := Option.some.inj ((show Tryd.prog.funcNamed Rows.marksFullRow.func = some 12 by kernel_rfl).symm.trans hf) |>.symm
      obtain rfl : fn = Tryd.f12 := (Option.some.inj (Tryd.func12.symm.trans hfn)).symm
      exact ⟨by kernel_rfl, fun j t ht => noStand t (by
        have := Array.mem_of_getElem? ht
        simpa using this)⟩)
    (by kernel_rfl)
#print axioms card_holds
end lawMarksFull
end Go.Proofs.YtikbcpljhjfoiaaDoor

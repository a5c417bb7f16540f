/- 5 texts in one: each says ahead of itself what is proved, and its conditions. -/
import Derived.LoopIn
import Derived.LoopNIn
import Derived.OwnWalkIn
import Derived.RangeFuncBound
import Derived.RangeFuncCalls
import Derived.RangeFuncLeaves
import Derived.RangeFuncNested
import Derived.RangeFuncWrites
import Derived.Shelf.Abstract
import Derived.TacticsInMore
import Derived.WalkKit
import Derived.Test.YtngalkmmpjegkaaGreatDoorBackOne
import Derived.Test.YtngalkmmpjegkaaGreatDoorDocOps
import Derived.Test.YtngalkmmpjegkaaGreatDoorEditInsert
import Derived.Test.YtngalkmmpjegkaaGreatDoorSame0
/- (*undoer).one, walked (the walk). Conditions: the book is right; the maker's number is small; so are the ops many. -/
namespace Go.Proofs.YtngalkmmpjegkaaGreatDoor
open Go.RowKit
set_option linter.unusedVariables false
set_option maxRecDepth 100000 in
set_option maxHeartbeats 8000000 in
theorem one_any (w : World) (B u bm r : Nat) (V : Option Addr) (st : LDoc) (bk : List LLeaf) (m : LMk) (A : Option Addr) (c cl : Nat) (ys : List OpAt) (kvs : List (ByteArray × Nat)) (h : UnIs w B u bm r bk m V c ys A cl kvs) (hc : Cnt st.ops kvs m.ops) (hB : B ≤ w.heap.size) (ok : BookOk bk) (o : LOp) (Ao : Option Addr) (co : Nat)
    (hn0 : 0 ≤ m.n) (hn : m.n ≤ 900000) (hl : m.ops.length ≤ 90000) (hd : st.ops.length ≤ 90000) :
    Calls Tryz.prog 74 #[.pointer (some ⟨u, 0, none⟩), o.val Ao co] w (OnePost w B u bm r V st.ops (st.unOne ⟨bk, m⟩ o)) := by
  obtain ⟨WX, hWX⟩ : ∃ WX, WX = w.alloc (.cells (o.cells Ao co) 30) := ⟨_, rfl⟩
  have hbX : Below w.heap.size w WX := by rw [hWX]; exact (Below.refl _ _).alloc (Nat.le_refl _) _
  have hB2 : B ≤ WX.heap.size := by have := hbX.size; omega
  have HBOX : Hid (Blk WX w.heap.size 30 (o.cells Ao co)) := by rw [hWX]; exact Blk.new w _ _
  have HH := Lib.hid (NewMid.start (h.below hbX) hc)
  have HSM := Lib.hid h.small
  have HFIN : Hid (∀ U w', UnTo WX B u bm r V st.ops U w' → UnTo w B u bm r V st.ops U w') := fun U w' hh => hh.base hbX
  have HOK := Lib.hid ok
  have hll := ok.few
  have HC := Lib.hid (fun bk m A cl W (hW : NewMid WX B u bm r V st.ops bk m A cl W) => hW.cells)
  have HX : Hid (∀ bk m A cl W, NewMid WX B u bm r V st.ops bk m A cl W → W.cell? ⟨w.heap.size, 2, none⟩ = some (.int .i64 o.what) ∧ W.cell? ⟨w.heap.size, 3, none⟩ = some (.string o.place)) := fun bk m A cl W hW => by
    have hb := hW.box HBOX.out HSM.out
    exact ⟨by rw [hb.cell]; rfl, by rw [hb.cell]; rfl⟩
  have HFD := Lib.hid (fun W (hW : NewMid WX B u bm r V st.ops bk m A cl W) => find_any W A cl bk o.place hW.reads (by omega) ok.rising)
  have HUN : Hid (∀ x, st.unOne ⟨bk, m⟩ o = x → st.unOne ⟨bk, m⟩ o = x) := fun x h => h
  have hob : o.val Ao co = .agg (o.cells Ao co) := rfl
  obtain ⟨k, hk⟩ : ∃ k, k = w.heap.size := ⟨_, rfl⟩
  obtain ⟨c0, c1, c2, f0⟩ := HC.out _ _ _ _ _ HH.out
  obtain ⟨x2, x3⟩ := HX.out _ _ _ _ _ HH.out
  have HWX := Lib.hid hWX
  rw [hob]
  unfold LOp.cells at hWX ⊢
  clear hbX h ok hob
  go_enter Tryz.func74, Tryz.ntmps74
  go_upto_region 1 with (fail)
  rw [← hWX]
  clear hWX
  rw [← hk] at HBOX HSM HX x2 x3 ⊢
  clear hk
  go_cut [6, 7] (fun a b wx => a = .int .i64 (ahead bk o.place : Int) ∧ b = .bool (hasAt bk o.place) ∧ Hid (NewMid WX B u bm r V st.ops bk m A cl wx))
  case first =>
    go_region_held3 (fun w' => w'.cell? ⟨u, 0, none⟩ = some (.slice A bk.length cl) ∧ w'.cell? ⟨k, 3, none⟩ = some (.string o.place))
      (first | go_keep | (refine ⟨?_, ?_⟩ <;> assumption))
      ((go_at_call 109; refine (HFD.out _ (by first | exact HH.out | exact HH.out.drewN _)).mono ?_; rintro e w1 ⟨rfl, hb1⟩
        have HM1 := Lib.hid (NewMid.below (by first | exact HH.out | exact HH.out.drewN _) hb1)
        obtain ⟨t0, t1, t2, t3⟩ := HC.out _ _ _ _ _ HM1.out
        obtain ⟨t4, t5⟩ := HX.out _ _ _ _ _ HM1.out
        clear hb1 c0 c1 c2 f0 x2 x3))
    all_goals
      go_wp2_with fail
      go_meet
      case rel => exact ⟨rfl, rfl, HM1⟩
  case rest =>
    obtain ⟨rfl, rfl, HM⟩ := hcut
    clear HFD c0 c1 c2 f0 x2 x3
    obtain ⟨c0, c1, c2, f0⟩ := HC.out _ _ _ _ _ HM.out
    obtain ⟨x2, x3⟩ := HX.out _ _ _ _ _ HM.out
    have HOUT := Lib.hid (HFIN.out _ _ HM.out.to)
    cases hp : hasAt bk o.place with
    | false =>
      have HF : Hid (st.unOne ⟨bk, m⟩ o = (⟨bk, m⟩, false, 0)) := if_pos (.inl hp)
      have HE0 : Hid (errV 0 = .nilIface) := rfl
      go_wp2_with fail
      go_ret2
      rw [HF.out]
      exact ⟨rfl, HOUT.out⟩
    | true =>
      obtain ⟨hi, e1, e2⟩ := at_old hp
      have HPL : Hid (placeErr o.place = 0) := by
        show _ = _
        have h3 := (HOK.out.leafs _ (List.getElem_mem hi)).place
        rwa [e1, e2] at h3
      have HPS : Hid (o.place.size ≤ 9223372036854775807) := by
        show _ ≤ _
        have := place_small HPL.out
        omega
      have HSE := Lib.hid (fun W => strike_any W A cl bk o.place)
      have HSZ : Hid (strikeErr bk o.place = 0) := strike_zero HOK.out HPL.out (.inl hp)
      have HAN := Lib.hid (fun W (hW : NewMid WX B u bm r V st.ops bk m A cl W) => hW)
      have HU0 : Hid ((old bk o.place).letter = 0 → st.unOne ⟨bk, m⟩ o = (⟨bk, m⟩, false, 0)) := fun h => if_pos (.inr h)
      have HU1 : Hid (¬ (old bk o.place).letter = 0 → o.what = 1 → seenB (old bk o.place) = true → st.unOne ⟨bk, m⟩ o = (⟨strikeRes bk o.place, m.st o.place⟩, true, 0)) := fun h1 h2 h3 => by
        unfold LDoc.unOne
        rw [if_neg (by rintro (h | h); rw [hp] at h; cases h; exact h1 h), if_pos ⟨h2, h3⟩]
      have HU2 : Hid (¬ (old bk o.place).letter = 0 → o.what = 2 → (old bk o.place).struck = true → strk st.ops o.place + strk m.ops o.place = 1 → st.unOne ⟨bk, m⟩ o = ((LDoc.unNew ⟨bk, m⟩ o.place).1, true, (LDoc.unNew ⟨bk, m⟩ o.place).2)) := fun h1 h2 h3 h4 => by
        unfold LDoc.unOne
        rw [if_neg (by rintro (h | h); rw [hp] at h; cases h; exact h1 h), if_neg (by rintro ⟨h5, _⟩; omega), if_pos ⟨h2, h3, h4⟩]
      have HU3 : Hid (¬ (old bk o.place).letter = 0 → ¬ (o.what = 1 ∧ seenB (old bk o.place) = true) → ¬ (o.what = 2 ∧ (old bk o.place).struck = true ∧ strk st.ops o.place + strk m.ops o.place = 1) → st.unOne ⟨bk, m⟩ o = (⟨bk, m⟩, false, 0)) := fun h1 h2 h3 => by
        unfold LDoc.unOne
        rw [if_neg (by rintro (h | h); rw [hp] at h; cases h; exact h1 h), if_neg h2, if_neg h3]
      have HNW := Lib.hid (fun W (hW : NewMid WX B u bm r V st.ops bk m A cl W) => anew_any WX W B u bm r V st.ops bk m A cl hW hB2 HOK.out o.place hp hn0 hn hl)
      have HST := Lib.hid (fun W (hW : NewMid WX B u bm r V st.ops bk m A cl W) => hW.strikes hB2 o.place (by omega) (by omega) (by omega))
      have HLK := Lib.hid (fun W (hW : NewMid WX B u bm r V st.ops bk m A cl W) => hW.looks o.place)
      generalize ahead bk o.place = i at *
      generalize hx : old bk o.place = x at *
      clear hx
      obtain ⟨px, lt, sx⟩ := x
      obtain ⟨ad, rfl, _, d0, d1, d2⟩ := HM.out.reads.leaf hi
      rw [e1] at d0 d1 d2
      have HLX : Hid (∀ m' W, NewMid WX B u bm r V st.ops bk m' (some ad) cl W → W.cell? (ad.add (i * 3)) = some (.string px) ∧ W.cell? ⟨(ad.add (i * 3)).block, (ad.add (i * 3)).off + 1, none⟩ = some (.int .i64 lt) ∧ W.cell? ⟨(ad.add (i * 3)).block, (ad.add (i * 3)).off + 2, none⟩ = some (.bool sx)) := fun m' W hW => by
        obtain ⟨ad', e, _, k0, k1, k2⟩ := hW.reads.leaf hi
        rw [e1] at k0 k1 k2
        cases e
        exact ⟨k0, k1, k2⟩
      have HSN := Lib.hid (fun W => seen_any W ⟨px, lt, sx⟩)
      have i0 : (0 : Int) ≤ (i : Int) := by omega
      have i1 : (i : Int) < (bk.length : Int) := by omega
      have HE0 : errV 0 = .nilIface := rfl
      clear e1 e2 hp HPL HUN
      by_cases h0 : lt = 0
      · have HF := Lib.hid (HU0.out h0)
        subst h0
        clear HU0 HU1 HU2 HU3 HNW HST HLK HSE HSN
        go_wp2_with fail
        go_ret2
        rw [HF.out]
        exact ⟨rfl, HOUT.out⟩
      · have g0 : (lt == 0) = false := by simp [h0]
        have HU1 := Lib.hid (HU1.out h0)
        have HU2 := Lib.hid (HU2.out h0)
        have HU3 := Lib.hid (HU3.out h0)
        clear HU0
        by_cases hw : o.what = 1
        · have HU1 := Lib.hid (HU1.out hw)
          have HU3 := Lib.hid (fun h => HU3.out h (by rintro ⟨h5, _⟩; omega))
          rw [hw] at x2
          clear HU2 HNW HLK
          go_wp2_with fail
          refine (HSN.out _).mono ?_
          rintro e w2 ⟨rfl, hb2⟩
          have HM2 := Lib.hid (HM.out.below hb2)
          clear hb2 HM c0 c1 c2 f0 d0 d1 d2 x2 x3 HOUT
          obtain ⟨c0, c1, c2, f0⟩ := HC.out _ _ _ _ _ HM2.out
          obtain ⟨x2, x3⟩ := HX.out _ _ _ _ _ HM2.out
          obtain ⟨d0, d1, d2⟩ := HLX.out _ _ HM2.out
          rw [hw] at x2
          cases hs : seenB ⟨px, lt, sx⟩ with
          | false =>
            have HF := Lib.hid (HU3.out (by rintro ⟨_, h⟩; rw [hs] at h; cases h))
            have HOUT := Lib.hid (HFIN.out _ _ HM2.out.to)
            clear hs HU1 HU3 HST HSE HSN
            go_wp2_with fail
            go_quiet (fail)
            go_wp2_with fail
            go_ret2
            rw [HF.out]
            refine ⟨rfl, HFIN.out _ _ ?_⟩
            first | exact HM2.out.to | exact (HM2.out.drewN _).to
          | true =>
            have HF := Lib.hid (HU1.out hs)
            clear hs HU1 HU3 HSN
            go_upto_region 5 with (fail)
            go_cut [] (fun wx => Hid (StMid WX B u bm r V st.ops bk m (m.st o.place) (some ad) cl wx))
            case first =>
              have HSTX : Hid (∀ W, NewMid WX B u bm r V st.ops bk m (some ad) cl W → Calls _ _ _ _ _) := fun W hW => HST.out W hW
              unfold LOp.val at HSTX
              go_region_held3 (fun w' => w'.cell? ⟨u, 2, none⟩ = some (.pointer (some ⟨bm, 0, none⟩)) ∧ w'.cell? ⟨k, 3, none⟩ = some (.string o.place))
                (first | go_keep | (refine ⟨?_, ?_⟩ <;> assumption))
                ((go_at_call 110; refine (HSTX.out _ (by first | exact HM2.out | exact HM2.out.drewN _)).mono ?_; rintro e w3 ⟨rfl, hm⟩
                  have HM3 := Lib.hid hm
                  obtain ⟨t0, t1, t2⟩ := hm.cells
                  have t3 := (hm.box HBOX.out HSM.out).cell 3
                  have t4 : w3.cell? ⟨k, 3, none⟩ = some (.string o.place) := by rw [t3]; rfl
                  clear hm t3 c0 c1 c2 f0 d0 d1 d2 x2 x3))
              all_goals
                go_wp2_with fail
                go_meet
                case rel => first | exact HM3 | exact Lib.hid (HM3.out.drewN _)
            case rest =>
              have HM3 := Lib.hid hcut.out
              obtain ⟨w3, hw3⟩ : ∃ x : World, x = wc := ⟨_, rfl⟩
              rw [← hw3] at HM3 ⊢
              clear hcut hw3 c0 c1 c2 f0 d0 d1 d2 x2 x3 HST
              obtain ⟨n, w4, hn2, hlk, hup, hN⟩ := (HM3.out.below (Below.refl _ _).drew).count (by omega) (by omega)
              have HM4 := Lib.hid hN
              obtain ⟨c0, c1, c2⟩ := HM3.out.cells
              have t3 := (HM3.out.box HBOX.out HSM.out).cell 3
              have x3 : w3.cell? ⟨k, 3, none⟩ = some (.string o.place) := by rw [t3]; rfl
              have q1 : IntKind.i64.wrap ((n : Int) + 1) = (n : Int) + 1 := IntWalk.i64_in _ (by omega)
              have q2 : ((n + 1 : Nat) : Int) = (n : Int) + 1 := by omega
              rw [q2] at hup
              clear t3 hN q2
              go_wp2_with fail
              go_region
              have HM5 := HM4
              clear HM4 HM3 c0 c1 c2 x3 hup hlk
              obtain ⟨c0, c1, c2, f0⟩ := HC.out _ _ _ _ _ HM5.out
              obtain ⟨x2, x3⟩ := HX.out _ _ _ _ _ HM5.out
              have HSY := Lib.hid (fun W (hW : NewMid WX B u bm r V st.ops bk (m.st o.place) (some ad) cl W) => HSE.out W hW.reads (bk_sized HOK.out) (by omega) HPS.out)
              rw [HSZ.out] at HSY
              have HG : Hid (giveL 0 (strikeRes bk o.place) = strikeRes bk o.place) := if_pos rfl
              rw [HG.out] at HSY
              clear HG HSE HSZ
              generalize strikeRes bk o.place = bk2 at *
              go_upto_region 7 with (fail)
              go_cut [8, 9] (fun a b wx => ∃ V4 c4, a = .slice V4 bk2.length c4 ∧ b = .nilIface ∧ Hid (NewMid WX B u bm r V st.ops bk (m.st o.place) (some ad) cl wx) ∧ Hid (Own wx B 112 3 V4 bk2.length c4 (lcells bk2)))
              case first =>
                go_region_held3 (fun w' => w'.cell? ⟨u, 0, none⟩ = some (.slice (some ad) bk.length cl) ∧ w'.cell? ⟨k, 3, none⟩ = some (.string o.place))
                  (first | go_keep | (refine ⟨?_, ?_⟩ <;> assumption))
                  ((go_at_call 104; refine (HSY.out _ (by first | exact HM5.out | exact HM5.out.drewN _)).mono ?_; rintro e w6 ⟨V4, c4, rfl, hO, hb4⟩
                    have HM6 := Lib.hid (NewMid.below (by first | exact HM5.out | exact HM5.out.drewN _) hb4)
                    have HO := Lib.hid (hO.mono (show B ≤ _ by have := HM5.out.size; simp; omega))
                    obtain ⟨t0, t1, t2, t3⟩ := HC.out _ _ _ _ _ HM6.out
                    obtain ⟨t4, t5⟩ := HX.out _ _ _ _ _ HM6.out
                    clear hb4 hO c0 c1 c2 f0 x2 x3))
                all_goals
                  go_wp2_with fail
                  go_meet
                  case rel => exact ⟨_, _, rfl, rfl, HM6, HO⟩
              case rest =>
                obtain ⟨V4, c4, rfl, rfl, HM6, HO⟩ := hcut
                clear c0 c1 c2 f0 x2 x3 HM5 HSY
                obtain ⟨c0, c1, c2, f0⟩ := HC.out _ _ _ _ _ HM6.out
                have HP := Lib.hid (HM6.out.put HO.out)
                go_wp2_with fail
                go_ret2
                rw [HF.out]
                exact ⟨rfl, HFIN.out _ _ HP.out.to⟩
        · have g1 : (o.what == 1) = false := by simp [hw]
          have HN1 : Hid (¬ (o.what = 1 ∧ seenB ⟨px, lt, sx⟩ = true)) := fun h => hw h.1
          have HU3 := Lib.hid (HU3.out HN1.out)
          clear HU1 HST HSE HSN HSZ HN1
          by_cases hw2 : o.what = 2
          · have HU2 := Lib.hid (HU2.out hw2)
            rw [hw2] at x2 g1
            cases sx with
            | false =>
              have HF := Lib.hid (HU3.out (by rintro ⟨_, h, _⟩; cases h))
              clear HU2 HU3 HNW HLK hw hw2
              go_wp2_with fail
              go_quiet (fail)
              go_wp2_with fail
              go_ret2
              rw [HF.out]
              refine ⟨rfl, HFIN.out _ _ ?_⟩
              first | exact HM.out.to | exact (HM.out.drewN _).to
            | true =>
              by_cases hn1 : strk st.ops o.place + strk m.ops o.place = 1
              · have HF := Lib.hid (HU2.out rfl hn1)
                have hlk := fun j => HLK.out _ (HM.out.drewN j)
                simp only [hn1] at hlk
                clear HU2 HU3 HLK hw hw2 hn1
                go_wp2_with fail
                go_quiet (fail)
                go_wp2_with fail
                refine (HNW.out _ (by first | exact HM.out | exact HM.out.drewN _)).mono ?_
                rintro e w2 ⟨rfl, ht⟩
                go_wp2_with fail
                go_ret2
                rw [HF.out]
                exact ⟨rfl, HFIN.out _ _ ht⟩
              · have HF := Lib.hid (HU3.out (by rintro ⟨_, _, h⟩; exact hn1 h))
                have hlk := fun j => HLK.out _ (HM.out.drewN j)
                generalize strk st.ops o.place + strk m.ops o.place = n at *
                have gn : ((n : Int) == 1) = false := by rw [beq_eq_false_iff_ne]; omega
                clear HU2 HU3 HLK HNW hw hw2 hn1
                go_wp2_with fail
                go_quiet (fail)
                go_wp2_with fail
                go_ret2
                rw [HF.out]
                refine ⟨rfl, HFIN.out _ _ ?_⟩
                first | exact HM.out.to | exact (HM.out.drewN _).to
          · have g2 : (o.what == 2) = false := by simp [hw2]
            have HF := Lib.hid (HU3.out (by rintro ⟨h, _⟩; exact hw2 h))
            clear HU2 HU3 HNW HLK hw hw2
            go_wp2_with fail
            go_quiet (fail)
            go_wp2_with fail
            go_ret2
            rw [HF.out]
            refine ⟨rfl, HFIN.out _ _ ?_⟩
            first | exact HM.out.to | exact (HM.out.drewN _).to
end Go.Proofs.YtngalkmmpjegkaaGreatDoor
/- slices.Backward over a row of ops: its contract. Conditions: the row can be read. -/
namespace Go.Proofs.YtngalkmmpjegkaaGreatDoor
open Go.RowKit Go.Shelf
set_option linter.unusedVariables false
attribute [local go_sem] Oper.semAt_some
/-- What comes, when k rounds are over: the last one first. -/
def backUp (ys : List OpAt) (k : Nat) : List (Nat × OpAt) := (List.range k).map fun j => (ys.length - 1 - j, ys.getD (ys.length - 1 - j) default)
theorem backUp_succ (ys : List OpAt) (k : Nat) : backUp ys (k + 1) = backUp ys k ++ [(ys.length - 1 - k, ys.getD (ys.length - 1 - k) default)] := by simp [backUp, List.range_succ]
theorem backUp_length (ys : List OpAt) (k : Nat) : (backUp ys k).length = k := by simp [backUp]
/-- These blocks lie as they lay. -/
def KeepT (T : List Nat) (W W' : World) : Prop := ∀ g ∈ T, W'.heap[g]? = W.heap[g]?
namespace KeepT
variable {T : List Nat} {A B C : World}
theorem refl (T : List Nat) (A : World) : KeepT T A A := fun g hg => rfl
theorem trans (h : KeepT T A B) (k : KeepT T B C) : KeepT T A C := fun g hg => (k g hg).trans (h g hg)
theorem cell (h : KeepT T A B) {p : Addr} (hp : p.block ∈ T) : B.cell? p = A.cell? p := World.cell?_of_block (h _ hp)
theorem reads {n₀ size n : Nat} {V : Option Addr} {xs : List Value} (h : KeepT T A B) (hr : Reads A n₀ size V n xs) (hV : ∀ g ∈ ob V, g ∈ T) : Reads B n₀ size V n xs :=
  ⟨hr.1, fun hn => by
    obtain ⟨ad, e, hb, hc⟩ := hr.2 hn
    refine ⟨ad, e, hb, fun j u hu => (h.cell ?_).trans (hc j u hu)⟩
    rw [block_of_add]
    exact hV _ (by rw [e]; simp [ob])⟩
theorem only {S : List Nat} (h : Only S A B) (hT : ∀ g ∈ T, g < A.heap.size ∧ g ∉ S) : KeepT T A B := fun g hg => h.block g (hT g hg).1 (hT g hg).2
end KeepT
set_option maxRecDepth 100000 in
set_option maxHeartbeats 2000000 in
theorem back1_in (F : Fence) (n : Nat) (h85 : F.fn 105) (hro : F.round = none) (hn : 1 ≤ n) (l Bs n₀ : Nat) (A : Option Addr) (ys : List OpAt) (cap : Nat) (hl : ys.length ≤ 100000) (J Jx : List (Nat × OpAt) → World → Prop) (T : List Nat)
    (hY : ∀ pre x W, J pre W → pre.length < ys.length → YieldAt F (n - 1) Tryz.prog l #[.int .i64 (x.1 : Int), x.2.op.val x.2.at_ x.2.cap] W fun e W' =>
      (e = .returned (.bool true) ∧ J (pre ++ [x]) W' ∧ KeepT T W W') ∨ (e = .returned (.bool false) ∧ Jx (pre ++ [x]) W'))
    (W : World) (hBs : W.cell? ⟨Bs, 0, none⟩ = some (.slice A ys.length cap)) (hBs0 : Bs ∈ T) (hAT : ∀ g ∈ ob A, g ∈ T) (hr : Reads W n₀ 6 A ys.length (ocells ys)) (h0 : J [] W) :
    CallsIn F n Tryz.prog 105 #[.func (.yield l) #[] #[], .pointer (some ⟨Bs, 0, none⟩)] W fun e W' => (∃ v, e = .returned v) ∧
      ((∃ zs, zs = backUp ys ys.length ∧ J zs W') ∨ (∃ pre, (∃ k, k ≤ ys.length ∧ pre = backUp ys k) ∧ Jx pre W')) := by
  refine callsIn_of_wp Tryz.func105 rfl h85 ?_ hro
  simp only [Tryz.ntmps105, List.size_toArray, List.length_cons, List.length_nil, Nat.reduceAdd, Nat.reduceSub, Array.replicate_succ, Array.replicate_zero, List.push_toArray, List.append_toArray, List.nil_append, List.cons_append]
  obtain ⟨len, hlen⟩ : ∃ len, len = ys.length := ⟨_, rfl⟩
  have HL := Lib.hid hlen
  rw [← hlen] at hBs hr hl hY
  clear hlen
  have q0 : IntKind.i64.wrap ((len : Int) - 1) = (len : Int) - 1 := IntWalk.i64_in _ (by omega)
  gi_wp2
  gi_loopw [3] (fun i wr => ∃ m k : Nat, m + k = len ∧ i = .int .i64 ((m : Int) - 1) ∧ J (backUp ys k) wr ∧ KeepT T W wr)
    (fun i _ => (intOf i + 1).toNat)
  case atStart => exact ⟨len, 0, by omega, rfl, h0, KeepT.refl _ _⟩
  case round =>
    obtain ⟨m, k, hk, hi, hJs, hnx⟩ := hrel
    have hb2 : wr.cell? ⟨Bs, 0, none⟩ = some (.slice A len cap) := (hnx.cell (p := ⟨Bs, 0, none⟩) hBs0).trans hBs
    cases m with
    | succ m =>
      have e1 : ((m + 1 : Nat) : Int) - 1 = (m : Int) := by omega
      rw [e1] at hi
      have hm : m < ys.length := by rw [← HL.out]; omega
      obtain ⟨ad, rfl, _, d0, d1, d2, d3, d4, d5⟩ := (show Reads wr n₀ 6 A ys.length (ocells ys) by rw [← HL.out]; exact hnx.reads hr hAT).op hm
      obtain ⟨fn, tmps, assign, body, hy, hR⟩ := hY _ (m, ys[m]) wr hJs (by rw [backUp_length]; omega)
      have HUP : Hid (backUp ys (k + 1) = backUp ys k ++ [(m, ys[m])]) := by
        show _ = _
        rw [backUp_succ]
        have e2 : ys.length - 1 - k = m := by rw [← HL.out]; omega
        rw [e2]
        simp [List.getD, hm]
      have i0 : (0 : Int) ≤ (m : Int) := by omega
      have i1 : (m : Int) < (len : Int) := by omega
      have q1 : IntKind.i64.wrap ((m : Int) - 1) = (m : Int) - 1 := IntWalk.i64_in _ (by omega)
      subst hi
      obtain ⟨⟨⟨⟨who, nn⟩, what, p, letter, seen⟩, ya, yc⟩, hy2⟩ : ∃ y, y = ys[m] := ⟨_, rfl⟩
      rw [← hy2] at d0 d1 d2 d3 d4 d5 hy hR HUP
      clear hy2
      unfold LOp.val at hy
      dsimp only at hy d0 d1 d2 d3 d4 d5
      gi_wp2
      refine hR.mono ?_
      rintro e W3 (⟨rfl, hJ3, hk3⟩ | ⟨rfl, hJx3⟩)
      · gi_wp2
        go_roundw
        case rel => exact ⟨m, k + 1, by omega, rfl, by rw [HUP.out]; exact hJ3, hnx.trans hk3⟩
        case measure => simp [intOf]
      · gi_wp2
        refine bodyPost_ret (results_none rfl _ _ _) rfl ?_
        exact ⟨⟨_, rfl⟩, .inr ⟨_, ⟨k + 1, by rw [← HL.out]; omega, HUP.out.symm⟩, hJx3⟩⟩
    | zero =>
      have e1 : ((0 : Nat) : Int) - 1 = -1 := by omega
      rw [e1] at hi
      subst hi
      obtain rfl : k = len := by omega
      gi_wp2
      go_end0
      exact ⟨⟨_, rfl⟩, .inl ⟨_, rfl, by rw [← HL.out]; exact hJs⟩⟩
set_option maxHeartbeats 1000000 in
/-- slices.Backward: the slice is boxed; the function value has captured the box. -/
theorem backward_in (F : Fence) (n : Nat) (h44 : F.fn 65) (hro : F.round = none) (A : Option Addr) (len cap : Nat) (w : World) :
    CallsIn F n Tryz.prog 65 #[.slice A len cap] w fun e w' => e = .returned (.func (.func 105) #[] #[.pointer (some ⟨w.heap.size, 0, none⟩)]) ∧ w' = w.alloc (.cells #[.slice A len cap] 22) := by
  refine callsIn_of_wp Tryz.func65 rfl h44 ?_ hro
  simp only [Tryz.ntmps65, List.size_toArray, List.length_cons, List.length_nil, Nat.reduceAdd, Nat.reduceSub, Array.replicate_succ, Array.replicate_zero, List.push_toArray, List.append_toArray, List.nil_append, List.cons_append]
  gi_wp2
  go_ret
  exact ⟨rfl, rfl⟩
/-- What a round of it is handed. -/
def backEnc (x : Nat × OpAt) : Array Value := #[.int .i64 (x.1 : Int), x.2.op.val x.2.at_ x.2.cap]
theorem back_stops (F : Fence) (n : Nat) (h85 : F.fn 105) (hro : F.round = none) (hn : 1 ≤ n) (Bs n₀ : Nat) (A : Option Addr) (ys : List OpAt) (cap : Nat) (hl : ys.length ≤ 100000) (w : World) (hBs : Bs < w.heap.size) (hn₀ : n₀ ≤ w.heap.size)
    (hc : w.cell? ⟨Bs, 0, none⟩ = some (.slice A ys.length cap)) (hr : Reads w n₀ 6 A ys.length (ocells ys)) (T : List Nat) (hT : Bs ∈ T) (hAT : ∀ g ∈ ob A, g ∈ T) :
    SeqStopsK F n Tryz.prog 105 #[.pointer (some ⟨Bs, 0, none⟩)] backEnc (KeepT T) (fun zs => zs = backUp ys ys.length) (fun pre => ∃ k, k ≤ ys.length ∧ pre = backUp ys k) ys.length w := fun l J Jx W hW _ _ hY h0 => by
  exact back1_in F n h85 hro hn l Bs n₀ A ys cap hl J Jx T hY W ((hW.cell (p := ⟨Bs, 0, none⟩) hBs).trans hc) hT hAT (hr.below (hW.mono hn₀)) h0
theorem keepT_t {T : List Nat} {A B C : World} : KeepT T A B → KeepT T B C → KeepT T A C := KeepT.trans
theorem keepT_b {T : List Nat} {w : World} (hT : ∀ g ∈ T, g < w.heap.size) (W : World) (l : Nat) (o o' : Obj) (hl : w.heap.size ≤ l) (h : W.heap[l]? = some o) (h1 : o.isCells = false) (h2 : o.isWalk = false) : KeepT T W (W.putObj l o') := fun g hg => by
  have := hT g hg
  have hne : g ≠ l := by omega
  simp [World.putObj, Array.getElem?_setIfInBounds, Ne.symm hne]
end Go.Proofs.YtngalkmmpjegkaaGreatDoor
/- back.Undo, walked. Conditions: the document is right. UNDER WAY. -/
namespace Go.Proofs.YtngalkmmpjegkaaGreatDoor
open Go.RowKit Go.Shelf
set_option linter.unusedVariables false
attribute [local go_sem] Oper.semAt_some
theorem two_set {w : World} {g2 g3 : Nat} {t2 t3 : TypeId} {x y : Value} (h2 : Blk w g2 t2 #[x]) (h3 : Blk w g3 t3 #[y]) (hne : g2 ≠ g3) (a b : Value) :
    ((w.setCell ⟨g2, 0, none⟩ a).setCell ⟨g3, 0, none⟩ b).cell? ⟨g2, 0, none⟩ = some a ∧ ((w.setCell ⟨g2, 0, none⟩ a).setCell ⟨g3, 0, none⟩ b).cell? ⟨g3, 0, none⟩ = some b := by
  have k2 := h2.set_ 0 a
  have o1 : Only [g2] w (w.setCell ⟨g2, 0, none⟩ a) := (Only.refl _ _).setCell (.inl (by simp)) _
  have h3' := o1.blk h3 (by simpa using hne.symm)
  have k3 := h3'.set_ 0 b
  have o2 : Only [g3] (w.setCell ⟨g2, 0, none⟩ a) ((w.setCell ⟨g2, 0, none⟩ a).setCell ⟨g3, 0, none⟩ b) := (Only.refl _ _).setCell (.inl (by simp)) _
  have k2' := o2.blk k2 (by simpa using hne)
  exact ⟨by rw [k2'.cell]; rfl, by rw [k3.cell]; rfl⟩
/-- The four boxes of back.Undo. -/
structure Boxes (W : World) (k : Nat) (who n : Int) : Prop where
  who : Blk W k 3 #[.int .i64 who]
  n : Blk W (k + 1) 3 #[.int .i64 n]
  row : Blk W (k + 1 + 1) 22 #[.slice none 0 0]
  err : Blk W (k + 1 + 1 + 1) 32 #[.nilIface]
theorem Boxes.below {W W' : World} {k : Nat} {who n : Int} (h : Boxes W k who n) (hb : Below W.heap.size W W') : Boxes W' k who n := ⟨h.who.below hb h.who.lt, h.n.below hb h.n.lt, h.row.below hb h.row.lt, h.err.below hb h.err.lt⟩
theorem Boxes.start (w : World) (who n : Int) : Boxes ((((w.alloc (.cells #[.int .i64 who] 3)).alloc (.cells #[.int .i64 n] 3)).alloc (.cells #[.slice none 0 0] 22)).alloc (.cells #[.nilIface] 32)) w.heap.size who n :=
  ⟨(((Blk.new w 3 #[.int .i64 who]).alloc _).alloc _).alloc _, ((blk_new_at (by simp)).alloc _).alloc _, (blk_new_at (by simp)).alloc _, blk_new_at (by simp)⟩
set_option maxRecDepth 100000 in
set_option maxHeartbeats 8000000 in
theorem undo_bad (w : World) (B : Nat) (S : List Nat) (b : Nat) (st : LDoc) (D : DLay) (h : DocIs w B S b st D) (ok : st.Ok) (who n : Int) (hw0 : -9223372036854775808 ≤ who) (hw1 : who ≤ 9223372036854775807) (hbad : LDoc.whoE who ≠ 0) :
    Calls Tryz.prog 31 #[.pointer (some ⟨b, 0, none⟩), .int .i64 who, .int .i64 n] w (EditPost w (st.undE who n) (st.undR who n)) := by
  have HE : Hid (st.undE who n = 1) := if_pos hbad
  have HR : Hid (st.undR who n = []) := by show _ = _; unfold LDoc.undR; rw [if_neg (by rw [HE.out]; decide)]
  have HM := Lib.hid (fun W (hb : Below w.heap.size w W) => newMk_any W B S b st D (h.below hb) ok who hw0 hw1)
  have HV := Lib.hid (errV_ne (show (1 : Int) ≠ 0 by decide))
  obtain ⟨W0, hW0⟩ : ∃ W0, W0 = (((w.alloc (.cells #[.int .i64 who] 3)).alloc (.cells #[.int .i64 n] 3)).alloc (.cells #[.slice none 0 0] 22)).alloc (.cells #[.nilIface] 32) := ⟨_, rfl⟩
  have HB0 : Hid (Below w.heap.size w W0) := by rw [hW0]; exact ((((Below.refl _ w).alloc (Nat.le_refl _) _).alloc (by simp) _).alloc (by simp; omega) _).alloc (by simp; omega) _
  refine (callsIn_wide (n := 6)).1 ?_
  refine callsIn_of_wp_marks Tryz.func31 rfl trivial ?_ rfl
  simp only [Tryz.ntmps31, List.size_toArray, List.length_cons, List.length_nil, Nat.reduceAdd, Nat.reduceSub, Array.replicate_succ, Array.replicate_zero, List.push_toArray, List.append_toArray, List.nil_append, List.cons_append]
  gi_wp2
  have q0 := hW0
  rw [← hW0]
  refine ⟨trivial, callsIn_wide.2 ((HM.out _ HB0.out).mono ?_)⟩
  rintro e w1 (⟨hx, _⟩ | ⟨_, rfl, hb1⟩)
  · exact absurd hx hbad
  have HB1 := Lib.hid (HB0.out.trans (hb1.mono HB0.out.size))
  have HSZ : Hid (w.heap.size + 4 = W0.heap.size) := by show _ = _; rw [hW0]; simp
  have k2 : Blk W0 (w.heap.size + 1 + 1) 22 #[.slice none 0 0] := by
    rw [hW0]
    exact (blk_new_at (w := (w.alloc (.cells #[.int .i64 who] 3)).alloc (.cells #[.int .i64 n] 3)) (by simp)).alloc _
  have k3 : Blk W0 (w.heap.size + 1 + 1 + 1) 32 #[.nilIface] := by
    rw [hW0]
    exact blk_new_at (by simp)
  have HK2 : Hid (Blk w1 (w.heap.size + 1 + 1) 22 #[.slice none 0 0]) := k2.below hb1 k2.lt
  have HK3 : Hid (Blk w1 (w.heap.size + 1 + 1 + 1) 32 #[.nilIface]) := k3.below hb1 k3.lt
  have c2 : w1.cell? ⟨w.heap.size + 1 + 1, 0, none⟩ = some (.slice none 0 0) := by rw [HK2.out.cell]; rfl
  have f2 := HK2.out.frozen 0
  have c3 : w1.cell? ⟨w.heap.size + 1 + 1 + 1, 0, none⟩ = some .nilIface := by rw [HK3.out.cell]; rfl
  have f3 := HK3.out.frozen 0
  clear k2 k3 hb1 q0 hW0
  rw [HV.out]
  gi_wp2
  have HP : Hid (EditPost w (st.undE who n) (st.undR who n) (.returned (.tuple #[.slice none 0 0, errV 1])) ((w1.setCell ⟨w.heap.size + 1 + 1, 0, none⟩ (.slice none 0 0)).setCell ⟨w.heap.size + 1 + 1 + 1, 0, none⟩ (errV 1))) := by
    show EditPost _ _ _ _ _
    rw [HE.out, HR.out]
    exact edit_bad ((HB1.out.setCell (p := ⟨w.heap.size + 1 + 1, 0, none⟩) (by show w.heap.size ≤ w.heap.size + 1 + 1; omega) _).setCell (p := ⟨w.heap.size + 1 + 1 + 1, 0, none⟩) (by show w.heap.size ≤ w.heap.size + 1 + 1 + 1; omega) _)
  rw [HV.out] at HP
  have k2 := HK2.out.set_ 0 (.slice none 0 0)
  have o1 : Only [w.heap.size + 1 + 1] w1 (w1.setCell ⟨w.heap.size + 1 + 1, 0, none⟩ (.slice none 0 0)) := (Only.refl _ _).setCell (.inl (by simp)) _
  have k3 := (o1.blk HK3.out (by simp)).set_ 0 (errV 1)
  rw [HV.out] at k3
  have o2 : Only [w.heap.size + 1 + 1 + 1] (w1.setCell ⟨w.heap.size + 1 + 1, 0, none⟩ (.slice none 0 0)) ((w1.setCell ⟨w.heap.size + 1 + 1, 0, none⟩ (.slice none 0 0)).setCell ⟨w.heap.size + 1 + 1 + 1, 0, none⟩ (errV 1)) := (Only.refl _ _).setCell (.inl (by simp)) _
  rw [HV.out] at o2
  have k2' := o2.blk k2 (by simp)
  have d2 := k2'.cell 0
  have d3 := k3.cell 0
  refine ⟨_, ?_, HP.out⟩
  simp [results, Tryz.f31, go_sem, d2, d3]
set_option maxRecDepth 100000 in
set_option maxHeartbeats 8000000 in
theorem undo_far (w : World) (B : Nat) (S : List Nat) (b : Nat) (st : LDoc) (D : DLay) (h : DocIs w B S b st D) (ok : st.Ok) (who n : Int) (hw0 : -9223372036854775808 ≤ who) (hw1 : who ≤ 9223372036854775807) (hgood : LDoc.whoE who = 0) (hn : n < 0 ∨ 200 < n) :
    Calls Tryz.prog 31 #[.pointer (some ⟨b, 0, none⟩), .int .i64 who, .int .i64 n] w (EditPost w (st.undE who n) (st.undR who n)) := by
  have HE : Hid (st.undE who n = 1) := by show _ = _; unfold LDoc.undE; rw [if_neg (by simp [hgood]), if_pos hn]
  have HR : Hid (st.undR who n = []) := by show _ = _; unfold LDoc.undR; rw [if_neg (by rw [HE.out]; decide)]
  have HM := Lib.hid (fun W (hb : Below w.heap.size w W) => newMk_any W B S b st D (h.below hb) ok who hw0 hw1)
  have HV := Lib.hid (errV_ne (show (1 : Int) ≠ 0 by decide))
  obtain ⟨W0, hW0⟩ : ∃ W0, W0 = (((w.alloc (.cells #[.int .i64 who] 3)).alloc (.cells #[.int .i64 n] 3)).alloc (.cells #[.slice none 0 0] 22)).alloc (.cells #[.nilIface] 32) := ⟨_, rfl⟩
  have HB0 : Hid (Below w.heap.size w W0) := by rw [hW0]; exact ((((Below.refl _ w).alloc (Nat.le_refl _) _).alloc (by simp) _).alloc (by simp; omega) _).alloc (by simp; omega) _
  have HX0 : Hid (Boxes W0 w.heap.size who n) := by rw [hW0]; exact Boxes.start w who n
  refine (callsIn_wide (n := 6)).1 ?_
  refine callsIn_of_wp_marks Tryz.func31 rfl trivial ?_ rfl
  simp only [Tryz.ntmps31, List.size_toArray, List.length_cons, List.length_nil, Nat.reduceAdd, Nat.reduceSub, Array.replicate_succ, Array.replicate_zero, List.push_toArray, List.append_toArray, List.nil_append, List.cons_append]
  gi_wp2
  rw [← hW0]
  refine ⟨trivial, callsIn_wide.2 ((HM.out _ HB0.out).mono ?_)⟩
  intro e w1 hpost
  obtain ⟨bm, rfl, hmk, hb1⟩ : ∃ bm, e = .returned (.tuple #[.pointer (some ⟨bm, 0, none⟩), .nilIface]) ∧ MkIs w1 W0.heap.size bm (st.maker who) none 0 [] ∧ Below W0.heap.size W0 w1 := by
    rcases hpost with ⟨_, bm, h1, h2, h3⟩ | ⟨hx, _⟩
    · exact ⟨bm, h1, h2, h3⟩
    · exact absurd hgood hx
  have HB1 := Lib.hid (HB0.out.trans (hb1.mono HB0.out.size))
  have HX1 := Lib.hid (HX0.out.below hb1)
  have c1 : w1.cell? ⟨w.heap.size + 1, 0, none⟩ = some (.int .i64 n) := by rw [HX1.out.n.cell]; rfl
  have c2 : w1.cell? ⟨w.heap.size + 1 + 1, 0, none⟩ = some (.slice none 0 0) := by rw [HX1.out.row.cell]; rfl
  have f2 := HX1.out.row.frozen 0
  have c3 : w1.cell? ⟨w.heap.size + 1 + 1 + 1, 0, none⟩ = some .nilIface := by rw [HX1.out.err.cell]; rfl
  have f3 := HX1.out.err.frozen 0
  have HP : Hid (EditPost w (st.undE who n) (st.undR who n) (.returned (.tuple #[.slice none 0 0, errV 1])) ((w1.setCell ⟨w.heap.size + 1 + 1, 0, none⟩ (.slice none 0 0)).setCell ⟨w.heap.size + 1 + 1 + 1, 0, none⟩ (errV 1))) := by
    show EditPost _ _ _ _ _
    rw [HE.out, HR.out]
    exact edit_bad ((HB1.out.setCell (p := ⟨w.heap.size + 1 + 1, 0, none⟩) (by show w.heap.size ≤ w.heap.size + 1 + 1; omega) _).setCell (p := ⟨w.heap.size + 1 + 1 + 1, 0, none⟩) (by show w.heap.size ≤ w.heap.size + 1 + 1 + 1; omega) _)
  have HT := Lib.hid (two_set HX1.out.row HX1.out.err (by omega) (.slice none 0 0) (errV 1))
  rw [HV.out] at HP HT
  clear hb1 hmk hW0
  rcases hn with hn | hn
  · gi_wp2
    obtain ⟨d2, d3⟩ := HT.out
    refine ⟨_, ?_, HP.out⟩
    simp [results, Tryz.f31, go_sem, d2, d3]
  · have hn0 : ¬ n < 0 := by omega
    gi_wp2
    obtain ⟨d2, d3⟩ := HT.out
    refine ⟨_, ?_, HP.out⟩
    simp [results, Tryz.f31, go_sem, d2, d3]
end Go.Proofs.YtngalkmmpjegkaaGreatDoor
/- What back.Undo's rounds keep. Conditions: none. -/
namespace Go.Proofs.YtngalkmmpjegkaaGreatDoor
open Go.RowKit Go.Shelf
set_option linter.unusedVariables false
/-- At most one block turned, and it is no cells. -/
def Turned (W W' : World) (row : Option Nat) : Prop := W.grownBy W' row ∧ ∀ r, row = some r → ∃ o : Obj, W.heap[r]? = some o ∧ o.isCells = false
theorem Turned.only {W W' : World} {row : Option Nat} (h : Turned W W' row) : Only row.toList W W' := (Only.refl _ W).grown h.1 (fun g e => .inl (by rw [e]; simp))
theorem Turned.not_blk {W W' : World} {row : Option Nat} (h : Turned W W' row) {g : Nat} {t : TypeId} {cs : Array Value} (hb : Blk W g t cs) : g ∉ row.toList := fun hm => by
  have e : row = some g := by simpa using hm
  obtain ⟨o, ho, hc⟩ := h.2 g e
  unfold Blk at hb
  rw [hb] at ho
  injection ho with ho
  rw [← ho] at hc
  cases hc
theorem Turned.blk {W W' : World} {row : Option Nat} (h : Turned W W' row) {g : Nat} {t : TypeId} {cs : Array Value} (hb : Blk W g t cs) : Blk W' g t cs := h.only.blk hb (h.not_blk hb)
theorem own_is {W : World} {B : Nat} {e : TypeId} {size n c : Nat} {A : Option Addr} {xs : List Value} (ho : Own W B e size A n c xs) : ∀ g ∈ ob A, ∃ cs fz, W.heap[g]? = some (Obj.cells cs e fz) := by
  intro g hg
  rcases ho.2 with ⟨h2, _⟩ | ⟨g', cap, cur, he, _, hh, _⟩
  · injection h2 with h2
    rw [h2] at hg; simp [ob] at hg
  · injection he with he
    rw [he] at hg; simp [ob] at hg; subst hg
    exact ⟨_, _, hh⟩
theorem Turned.not_own {W W' : World} {row : Option Nat} (h : Turned W W' row) {B : Nat} {e : TypeId} {size n c : Nat} {A : Option Addr} {xs : List Value} (ho : Own W B e size A n c xs) : ∀ g ∈ ob A, g ∉ row.toList := fun g hg hm => by
  have e : row = some g := by simpa using hm
  obtain ⟨o, ho1, hc⟩ := h.2 g e
  obtain ⟨cs, fz, h2⟩ := own_is ho g hg
  rw [h2] at ho1
  injection ho1 with ho1
  rw [← ho1] at hc
  cases hc
theorem Turned.own {W W' : World} {row : Option Nat} (h : Turned W W' row) {B : Nat} {e : TypeId} {size n c : Nat} {A : Option Addr} {xs : List Value} (ho : Own W B e size A n c xs) : Own W' B e size A n c xs := ho.only h.only (h.not_own ho)
theorem UnIs.turn {W W' : World} {row : Option Nat} {B u bm r : Nat} {bk : List LLeaf} {m : LMk} {V : Option Addr} {c : Nat} {ys : List OpAt} {A : Option Addr} {cl : Nat} {kvs : List (ByteArray × Nat)} (h : UnIs W B u bm r bk m V c ys A cl kvs) (ht : Turned W W' row) (hr : row ≠ some r) : UnIs W' B u bm r bk m V c ys A cl kvs :=
  ⟨ht.blk h.blk, ht.own h.book, ⟨ht.blk h.mkis.blk, ⟨ht.own h.mkis.ops.row, fun y hy => ht.own (h.mkis.ops.seen y hy)⟩, h.mkis.same, h.mkis.base⟩, h.map.only ht.only (fun hm => hr (by simpa using hm)), h.bu, h.br⟩
/-- A round of the undoer keeps what a range over a function has laid. -/
theorem UnIs.keepsFrom {W W' : World} {D B u bm r : Nat} {bk : List LLeaf} {m : LMk} {V : Option Addr} {c : Nat} {ys : List OpAt} {A : Option Addr} {cl : Nat} {kvs : List (ByteArray × Nat)} (h : UnIs W B u bm r bk m V c ys A cl kvs) (ho : Only (u :: bm :: r :: ob V) W W') (hr : r < D) : KeepsFrom D W W' := by
  refine ⟨ho.size, fun k o hk hko hc => (ho.block k (Array.getElem?_eq_some_iff.1 hko).1 (fun hm => ?_)).trans hko⟩
  have key : ∀ {t : TypeId} {cs : Array Value} {fz : Nat × Nat}, W.heap[k]? = some (Obj.cells cs t fz) → False := fun h2 => by
    rw [h2] at hko
    injection hko with hko
    rw [← hko] at hc
    cases hc
  rcases List.mem_cons.1 hm with e | hm
  · subst e; exact key h.blk
  · rcases List.mem_cons.1 hm with e | hm
    · subst e; exact key h.mkis.blk
    · rcases List.mem_cons.1 hm with e | hm
      · omega
      · obtain ⟨cs, fz, h2⟩ := own_is h.mkis.ops.row k hm
        exact key h2
/-- After these ops the undoer is here. -/
def UnFrom (st : LDoc) (n : Int) (U : LU) (pre : List LOp) (n' : Int) (U' : LU) : Prop := ∀ rest, st.unGo (pre ++ rest) n U = st.unGo rest n' U'
theorem UnFrom.start (st : LDoc) (n : Int) (U : LU) : UnFrom st n U [] n U := fun rest => rfl
theorem UnFrom.skip {st : LDoc} {n n' : Int} {U U' : LU} {pre : List LOp} (h : UnFrom st n U pre n' U') {o : LOp} (h0 : n' ≠ 0) (hw : o.dot.who ≠ U'.mak.who) : UnFrom st n U (pre ++ [o]) n' U' := fun rest => by
  rw [List.append_assoc, h]
  show st.unGo (o :: rest) n' U' = _
  rw [LDoc.unGo, if_neg h0, if_pos hw]
theorem UnFrom.step {st : LDoc} {n n' : Int} {U U' : LU} {pre : List LOp} (h : UnFrom st n U pre n' U') {o : LOp} (h0 : n' ≠ 0) (hw : o.dot.who = U'.mak.who) (he : (st.unOne U' o).2.2 = 0) : UnFrom st n U (pre ++ [o]) (if (st.unOne U' o).2.1 = true then n' - 1 else n') (st.unOne U' o).1 := fun rest => by
  rw [List.append_assoc, h]
  show st.unGo (o :: rest) n' U' = _
  rw [LDoc.unGo, if_neg h0, if_neg (by simp [hw]), if_neg (by simp [he])]
theorem UnFrom.fails {st : LDoc} {n n' : Int} {U U' : LU} {pre : List LOp} (h : UnFrom st n U pre n' U') {o : LOp} (h0 : n' ≠ 0) (hw : o.dot.who = U'.mak.who) (he : (st.unOne U' o).2.2 ≠ 0) : ∀ rest, st.unGo (pre ++ o :: rest) n U = ((st.unOne U' o).1, (st.unOne U' o).2.2) := fun rest => by
  rw [h, LDoc.unGo, if_neg h0, if_neg (by simp [hw]), if_pos he]
theorem UnFrom.ends {st : LDoc} {n : Int} {U U' : LU} {pre : List LOp} (h : UnFrom st n U pre 0 U') : ∀ rest, st.unGo (pre ++ rest) n U = (U', 0) := fun rest => by
  rw [h]
  cases rest with
  | nil => rfl
  | cons o t => rw [LDoc.unGo, if_pos rfl]
theorem UnFrom.done {st : LDoc} {n n' : Int} {U U' : LU} {pre : List LOp} (h : UnFrom st n U pre n' U') : st.unGo pre n U = (U', 0) := by
  have := h []
  rwa [List.append_nil] at this
end Go.Proofs.YtngalkmmpjegkaaGreatDoor
/- What back.Undo's rounds keep: the undoer's numbers, and the invariant. Conditions: none. -/
namespace Go.Proofs.YtngalkmmpjegkaaGreatDoor
open Go.RowKit Go.Shelf
set_option linter.unusedVariables false
theorem at_place {l : List LLeaf} (ok : BookOk l) {p : ByteArray} (h : hasAt l p = true) : placeErr p = 0 := by
  obtain ⟨hi, e1, e2⟩ := at_old h
  have h3 := (ok.leafs _ (List.getElem_mem hi)).place
  rwa [e1, e2] at h3
/-- What a step leaves right. -/
structure UStep (U U' : LU) : Prop where
  book : BookOk U'.book
  who : U'.mak.who = U.mak.who
  n0 : U.mak.n ≤ U'.mak.n
  n1 : U'.mak.n ≤ U.mak.n + 1
  len : U'.mak.ops.length ≤ U.mak.ops.length + 1
theorem UStep.same {U : LU} (ok : BookOk U.book) : UStep U U := ⟨ok, rfl, by omega, by omega, by omega⟩
theorem UStep.add {U : LU} {bk : List LLeaf} (o : LOp) (ok : BookOk bk) : UStep U ⟨bk, U.mak.add o⟩ := ⟨ok, rfl, by show _ ≤ U.mak.n + 1; omega, by show U.mak.n + 1 ≤ _; omega, by show (U.mak.ops ++ _).length ≤ _; simp⟩
theorem unNew_step {U : LU} (ok : BookOk U.book) (p : ByteArray) : UStep U (LDoc.unNew U p).1 := by
  unfold LDoc.unNew
  split
  · exact UStep.same ok
  · refine UStep.add (U := U) ⟨⟨0, 0⟩, 1, _, _, []⟩ ?_
    split
    · next h => exact write_book h
    · exact ok
theorem unOne_step {U : LU} (d : LDoc) (ok : BookOk U.book) (o : LOp) : UStep U (d.unOne U o).1 := by
  unfold LDoc.unOne
  split
  · exact UStep.same ok
  · next h =>
    have hp : hasAt U.book o.place = true := by
      cases e : hasAt U.book o.place with
      | true => rfl
      | false => exact absurd (.inl e) h
    split
    · exact UStep.add (U := U) ⟨⟨0, 0⟩, 2, _, 0, []⟩ (strike_book (strike_zero ok (at_place ok hp) (.inl hp)))
    · split
      · exact unNew_step ok _
      · exact UStep.same ok
/-- Between two rounds: who, n, the row and the error lie at k and behind it; the pointer at q. -/
structure UInv (st : LDoc) (D B k q u bm r : Nat) (who n : Int) (U0 : LU) (pre : List LOp) (W : World) : Prop where
  inv : ∃ n' bk m V c ys A cl kvs, UnFrom st n U0 pre n' ⟨bk, m⟩ ∧ 0 ≤ n' ∧ n' ≤ 200 ∧ BookOk bk ∧ m.who = U0.mak.who ∧ U0.mak.n ≤ m.n ∧ m.n ≤ U0.mak.n + pre.length ∧ m.ops.length ≤ pre.length ∧
    Boxes W k who n' ∧ Blk W q 140 #[.pointer (some ⟨u, 0, none⟩)] ∧ UnIs W B u bm r bk m V c ys A cl kvs ∧ Cnt st.ops kvs m.ops ∧ ∀ g ∈ ob V, D ≤ g
  size : D ≤ W.heap.size
theorem Boxes.turn {W W' : World} {row : Option Nat} {k : Nat} {who n : Int} (h : Boxes W k who n) (ht : Turned W W' row) : Boxes W' k who n := ⟨ht.blk h.who, ht.blk h.n, ht.blk h.row, ht.blk h.err⟩
theorem UInv.below {st : LDoc} {D B k q u bm r : Nat} {who n : Int} {U0 : LU} {pre : List LOp} {W W' : World} (h : UInv st D B k q u bm r who n U0 pre W) (hb : Below W.heap.size W W') : UInv st D B k q u bm r who n U0 pre W' := by
  obtain ⟨n', bk, m, V, c, ys, A, cl, kvs, h1, h2, h3, h4, h5, h6, h7, h8, h9, h10, h11, h12, h13⟩ := h.inv
  exact ⟨⟨n', bk, m, V, c, ys, A, cl, kvs, h1, h2, h3, h4, h5, h6, h7, h8, h9.below hb, h10.below hb h10.lt, h11.below hb, h12, h13⟩, Nat.le_trans h.size hb.size⟩
theorem UInv.turn {st : LDoc} {D B k q u bm r : Nat} {who n : Int} {U0 : LU} {pre : List LOp} {W W' : World} {row : Option Nat} (h : UInv st D B k q u bm r who n U0 pre W) (ht : Turned W W' row) (hr : row ≠ some r) : UInv st D B k q u bm r who n U0 pre W' := by
  obtain ⟨n', bk, m, V, c, ys, A, cl, kvs, h1, h2, h3, h4, h5, h6, h7, h8, h9, h10, h11, h12, h13⟩ := h.inv
  exact ⟨⟨n', bk, m, V, c, ys, A, cl, kvs, h1, h2, h3, h4, h5, h6, h7, h8, h9.turn ht, ht.blk h10, h11.turn ht hr, h12, h13⟩, Nat.le_trans h.size ht.1.size⟩
theorem UInv.ownFrom {st : LDoc} {D D' B k q u bm r : Nat} {who n : Int} {U0 : LU} (hr : r < D') : OwnFrom D' (fun (pre : List (Nat × OpAt)) W => UInv st D B k q u bm r who n U0 (pre.map fun x => x.2.op) W) :=
  fun s W W' row hs hg hrow => hs.turn ⟨hg, fun g e => (hrow g e).2⟩ (fun e => by have := (hrow r e).1; omega)
/-- The rounds were left at n = 0. -/
structure UFin (st : LDoc) (B k u bm r : Nat) (who n : Int) (U0 : LU) (pre : List LOp) (W : World) : Prop where
  fin : ∃ n' bk m V c ys A cl kvs, (∀ rest, st.unGo (pre ++ rest) n U0 = (⟨bk, m⟩, 0)) ∧ Boxes W k who n' ∧ UnIs W B u bm r bk m V c ys A cl kvs
/-- The rounds were left with an error, which stands in its cell. -/
structure UErr (st : LDoc) (k : Nat) (n : Int) (U0 : LU) (pre : List LOp) (W : World) : Prop where
  err : ∃ ke U', ke ≠ 0 ∧ (∀ rest, st.unGo (pre ++ rest) n U0 = (U', ke)) ∧ Blk W (k + 1 + 1) 22 #[.slice none 0 0] ∧ Blk W (k + 1 + 1 + 1) 32 #[errV ke]
theorem UFin.ownFrom {st : LDoc} {D B k u bm r : Nat} {who n : Int} {U0 : LU} (hr : r < D) : OwnFrom D (fun (pre : List (Nat × OpAt)) W => UFin st B k u bm r who n U0 (pre.map fun x => x.2.op) W) := fun s W W' row hs hg hrow => by
  obtain ⟨n', bk, m, V, c, ys, A, cl, kvs, h1, h2, h3⟩ := hs.fin
  have ht : Turned W W' row := ⟨hg, fun g e => (hrow g e).2⟩
  exact ⟨n', bk, m, V, c, ys, A, cl, kvs, h1, h2.turn ht, h3.turn ht (fun e => by have := (hrow r e).1; omega)⟩
theorem UErr.ownFrom {st : LDoc} {D k : Nat} {n : Int} {U0 : LU} : OwnFrom D (fun (pre : List (Nat × OpAt)) W => UErr st k n U0 (pre.map fun x => x.2.op) W) := fun s W W' row hs hg hrow => by
  obtain ⟨ke, U', h1, h2, h3, h4⟩ := hs.err
  have ht : Turned W W' row := ⟨hg, fun g e => (hrow g e).2⟩
  exact ⟨ke, U', h1, h2, ht.blk h3, ht.blk h4⟩
/-- How the rounds may be left. -/
def ULeft (st : LDoc) (B k u bm r : Nat) (who n : Int) (U0 : LU) (x : Code) (pre : List LOp) (W : World) : Prop := (x = .exit 2 ∧ UFin st B k u bm r who n U0 pre W) ∨ (x = .ret ∧ UErr st k n U0 pre W)
theorem ULeft.ownFrom {st : LDoc} {D B k u bm r : Nat} {who n : Int} {U0 : LU} (hr : r < D) (x : Code) : OwnFrom D (fun (pre : List (Nat × OpAt)) W => ULeft st B k u bm r who n U0 x (pre.map fun x => x.2.op) W) := fun s W W' row hs hg hrow => by
  rcases hs with ⟨e, h⟩ | ⟨e, h⟩
  · exact .inl ⟨e, UFin.ownFrom hr s W W' row h hg hrow⟩
  · exact .inr ⟨e, UErr.ownFrom s W W' row h hg hrow⟩
/-- A round is over. -/
theorem UInv.next {st : LDoc} {D B k q u bm r : Nat} {who n n' : Int} {U0 : LU} {pre : List LOp} {W W6 W7 : World} {o : LOp} {bk : List LLeaf} {m : LMk} {V' : Option Addr}
    (h1 : UnFrom st n U0 pre n' ⟨bk, m⟩) (hn0 : n' ≠ 0) (h2 : 0 ≤ n') (h3 : n' ≤ 200) (h4 : BookOk bk) (h5 : m.who = U0.mak.who) (h6 : U0.mak.n ≤ m.n) (h7 : m.n ≤ U0.mak.n + pre.length) (h8 : m.ops.length ≤ pre.length)
    (h10 : Blk W q 140 #[.pointer (some ⟨u, 0, none⟩)]) (hD : D ≤ W.heap.size) (hV : ∀ g ∈ ob V', D ≤ g) (hq : q ∉ u :: bm :: r :: ob V')
    (hw : o.dot.who = m.who) {U1 : LU} {is : Bool} (hone : st.unOne ⟨bk, m⟩ o = (U1, is, 0)) (hto : UnTo W B u bm r V' st.ops U1 W6)
    (ho : Only [k + 1] W6 W7) (hk : k + 1 < B) (hqk : q ≠ k + 1) (hbx : Boxes W7 k who (if is = true then n' - 1 else n')) :
    UInv st D B k q u bm r who n U0 (pre ++ [o]) W7 := by
  obtain ⟨V6, c6, ys6, A6, cl6, kvs6, k1, k2, k3, k4⟩ := hto
  have hs := unOne_step (U := ⟨bk, m⟩) st h4 o
  have hst := h1.step (o := o) hn0 hw (by rw [hone])
  rw [hone] at hs hst
  have z1 := k3.size
  have z2 := ho.size
  refine ⟨⟨_, U1.book, U1.mak, V6, c6, ys6, A6, cl6, kvs6, hst, ?_, ?_, hs.book, hs.who.trans h5, Int.le_trans h6 hs.n0, ?_, ?_, hbx, ?_, ?_, k2, ?_⟩, ?_⟩
  · show 0 ≤ if is = true then n' - 1 else n'
    split <;> omega
  · show (if is = true then n' - 1 else n') ≤ 200
    split <;> omega
  · have h : U1.mak.n ≤ m.n + 1 := hs.n1
    simp only [List.length_append, List.length_cons, List.length_nil]
    omega
  · have h : U1.mak.ops.length ≤ m.ops.length + 1 := hs.len
    simp only [List.length_append, List.length_cons, List.length_nil]
    omega
  · exact ho.blk (k3.blk h10 hq) (by simpa using hqk)
  · exact k1.only ho (fun g hg => by simp at hg; omega)
  · intro g hg
    rcases k4 g hg with h | h
    · exact hV g h
    · omega
  · omega
theorem backUp_take (zs : List OpAt) {k : Nat} (hk : k ≤ zs.length) : (backUp zs k).map (fun x => x.2.op) = ((zs.map OpAt.op).reverse).take k := by
  apply List.ext_getElem
  · simp [backUp]; omega
  · intro i h1 h2
    have hi : i < k := by simpa [backUp] using h1
    have hj : zs.length - 1 - i < zs.length := by omega
    simp [backUp, List.getElem_reverse, List.getElem?_eq_getElem hj]
theorem backUp_all (zs : List OpAt) : (backUp zs zs.length).map (fun x => x.2.op) = (zs.map OpAt.op).reverse := by
  rw [backUp_take zs (Nat.le_refl _)]
  exact List.take_of_length_le (by simp)
end Go.Proofs.YtngalkmmpjegkaaGreatDoor

/- The law LinkPlays: any data that is sent, frames that are heard, ticks: what is said, what came. Conditions: none of our own. -/
import Derived.Test.YtgninfpdomcobaaDoorLinkTwo
import Derived.Test.YtgninfpdomcobaaDoorLinkPlain
import Derived.Test.YtgninfpdomcobaaDoorLinkHearAny
import Derived.Test.YtgninfpdomcobaaDoorOpenLink
import Derived.Test.YtgninfpdomcobaaDoorTold
import Derived.Test.YtgninfpdomcobaaDoorCard
import Derived.Test.YtgninfpdomcobaaDoorFive
import Derived.Deep.CutBlock
namespace Go.Proofs.YtgninfpdomcobaaDoor
open Go.RowKit
set_option linter.unusedVariables false
namespace lawLinkPlays
def PlayLoop (w : World) (b rb : Nat) (e t i : Value) (wr : World) : Prop :=
  ∃ (k : Nat) (ei : Int) (ti : Bool) (A : Option Addr) (ca : Nat) (G : Option Addr) (cg : Nat) (RA : Option Addr) (rca : Nat) (RG : Option Addr) (rcg : Nat) (gone : List ByteArray) (st : LEnd),
    k ≤ 80 ∧ e = .int .i64 ei ∧ t = .bool ti ∧ i = .int .i64 k ∧ Hid (Two wr w.heap.size b rb A ca G cg RA rca RG rcg gone st st) ∧ Hid (st.Upto k) ∧ Hid (Below w.heap.size w wr)
def PlayMid (w : World) (b rb k : Nat) (e t : Value) (wr : World) : Prop :=
  ∃ (ei : Int) (A : Option Addr) (ca : Nat) (G : Option Addr) (cg : Nat) (RA : Option Addr) (rca : Nat) (RG : Option Addr) (rcg : Nat) (gone : List ByteArray) (st : LEnd),
    e = .int .i64 ei ∧ t = .bool true ∧ Hid (Two wr w.heap.size b rb A ca G cg RA rca RG rcg gone st st) ∧ Hid (st.Upto (k + 1)) ∧ Hid (Below w.heap.size w wr)
theorem below_of_drew {B : Nat} {w w' : World} (h : Below B w.drew w') : Below B w w' := ⟨h.os, h.tape, h.output, h.size, h.block⟩
theorem endAt_drew {w : World} {B b ca cg : Nat} {A G : Option Addr} {st : LEnd} (h : EndAt w B b A ca G cg st) : EndAt w.drew B b A ca G cg st := h.keep (S := []) ((Only.refl [] w).drew) (by simp)
theorem endAt_any {w : World} {B b ca cg : Nat} {A G : Option Addr} {st : LEnd} (h : EndAt w B b A ca G cg st) (n : Nat) : EndAt (w.drewN n) B b A ca G cg st := h.keep (S := []) ((Only.refl [] w).drewN n) (by simp)
theorem two_any {w : World} {B b rb : Nat} {A : Option Addr} {ca : Nat} {G : Option Addr} {cg : Nat} {RA : Option Addr} {rca : Nat} {RG : Option Addr} {rcg : Nat} {gone : List ByteArray} {st rt : LEnd} (h : Two w B b rb A ca G cg RA rca RG rcg gone st rt) (n : Nat) : Two (w.drewN n) B b rb A ca G cg RA rca RG rcg gone st rt :=
  ⟨h.e.keep (S := []) ((Only.refl [] w).drewN n) (by simp), h.r.keep (S := []) ((Only.refl [] w).drewN n) (by simp), h.far⟩
theorem frames_few {st : LEnd} {i : Nat} (h : st.Upto i) : st.outFrames.length ≤ 1000000 := by
  have h1 := st.ack_len
  have h2 := h.data
  have h3 : st.outFrames.length = st.ackFrames.length + (st.wide - st.skip) := by simp [LEnd.outFrames]
  have h4 : st.wide ≤ st.data.length := by unfold LEnd.wide; omega
  omega
theorem two_rtick {w : World} {B b rb : Nat} {A : Option Addr} {ca : Nat} {G : Option Addr} {cg : Nat} {RA : Option Addr} {rca : Nat} {RG : Option Addr} {rcg : Nat} {gone : List ByteArray} {st rt : LEnd} (h : Two w B b rb A ca G cg RA rca RG rcg gone st rt) :
    Two (w.setCell ⟨rb, 5, none⟩ (.int .i64 ((rt.ticks : Int) + 1))) B b rb A ca G cg RA rca RG rcg gone st rt.tick ∧ Only [rb] w (w.setCell ⟨rb, 5, none⟩ (.int .i64 ((rt.ticks : Int) + 1))) := by
  have ho : Only [rb] w (w.setCell ⟨rb, 5, none⟩ (.int .i64 ((rt.ticks : Int) + 1))) := (Only.refl _ _).setCell (.inl (by simp)) _
  refine ⟨h.rturn ⟨?_, h.r.base, ?_, ?_, h.r.apart, h.r.past, h.r.said⟩ ho, ho⟩
  · have hx := h.r.blk.set_ 5 (.int .i64 ((rt.ticks : Int) + 1))
    simpa [LEnd.rcells, LEnd.tick] using hx
  · exact h.r.data.only ho (fun x hx hm => by simp at hm; subst hm; exact h.r.bA hx)
  · exact h.r.got.only ho (fun x hx hm => by simp at hm; subst hm; exact h.r.bG hx)
theorem endTo_below {w w' : World} {B b : Nat} {A : Option Addr} {ca : Nat} {G : Option Addr} {cg : Nat} {st st' : LEnd} (h : EndAt w B b A ca G cg st) (hE : EndTo w B b A G st' w') : Below B w w' := by
  obtain ⟨A', ca', G', cg', he, ho, hn⟩ := hE
  exact ho.below (by have := h.base; have := h.blk.lt; omega) (fun g hg => (h.lt g hg).1)
theorem rendTo_below {w w' : World} {B b : Nat} {A : Option Addr} {ca : Nat} {G : Option Addr} {cg : Nat} {gone : List ByteArray} {st st' : LEnd} (h : REndAt w B b A ca G cg gone st) (hE : REndTo w B b A G st' w') : Below B w w' := by
  obtain ⟨A', ca', G', cg', gone', he, ho, hn⟩ := hE
  exact ho.below (by have := h.base; have := h.blk.lt; omega) (fun g hg => (h.lt g hg).1)
theorem two_rsend {w w1 : World} {B b rb : Nat} {A : Option Addr} {ca : Nat} {G : Option Addr} {cg : Nat} {RA : Option Addr} {rca : Nat} {RG : Option Addr} {rcg : Nat} {gone : List ByteArray} {st : LEnd} {N c : Nat} {V : Option Addr}
    (h : Two w B b rb A ca G cg RA rca RG rcg gone st st) (x : ByteArray) (hN : N = (gone ++ st.data).length) (hO : Own w1 B 9 1 V (N + 1) c (strs (gone ++ st.data) ++ strs [x]))
    (hL : Only (ob RA) (w.alloc (.cells #[.string x] 9)) w1) (hg : ∀ g ∈ ob V, g ∈ ob RA ∨ g = (w.alloc (.cells #[.string x] 9)).heap.size) :
    Two (w1.setCell ⟨rb, 2, none⟩ (.slice V (N + 1) c)) B b rb A ca G cg V c RG rcg gone st (st.send x) ∧ Only (rb :: ob RA) w (w1.setCell ⟨rb, 2, none⟩ (.slice V (N + 1) c)) := by
  subst hN
  have hg' : ∀ g ∈ ob V, g ∈ ob RA ∨ w.heap.size ≤ g := fun g hx => (hg g hx).imp id (fun e => by rw [e]; simp)
  have hL0 : Only (rb :: ob RA) w w1 := ((Only.refl _ w).alloc _).trans_new hL (fun i hi => .inl (List.mem_cons_of_mem _ hi))
  have hL1 : Only (rb :: ob RA) w (w1.setCell ⟨rb, 2, none⟩ (.slice V ((gone ++ st.data).length + 1) c)) := hL0.setCell (.inl (by simp)) _
  have hbs := h.r.blk.lt
  refine ⟨⟨h.e.keep hL1 (fun g hx hm => ?_), ⟨?_, h.r.base, ?_, h.r.got.only hL1 (fun g hx hm => ?_), fun g hx hm => ?_, h.r.past, ?_⟩, fun g hx hm => ?_⟩, hL1⟩
  · exact h.far g hx (by simp [endBlocks] at hm ⊢; rcases hm with h1 | h1 <;> simp [h1])
  · have h1 := (hL.blk (h.r.blk.alloc _) h.r.bA).set_ 2 (.slice V ((gone ++ st.data).length + 1) c)
    have e1 : (gone ++ (st.send x).data).length = (gone ++ st.data).length + 1 := by simp [LEnd.send]; omega
    rw [e1]
    exact h1
  · have hx := hO.only (S := [rb]) (w' := w1.setCell ⟨rb, 2, none⟩ (.slice V ((gone ++ st.data).length + 1) c)) ((Only.refl _ _).setCell (.inl (by simp)) _) (fun g hx hm => by
      simp at hm; subst hm
      rcases hg' _ hx with h1 | h1
      · exact h.r.bA h1
      · omega)
    have e1 : (gone ++ (st.send x).data).length = (gone ++ st.data).length + 1 := by simp [LEnd.send]; omega
    have e2 : strs (gone ++ (st.send x).data) = strs (gone ++ st.data) ++ strs [x] := by simp [strs, LEnd.send]
    rw [e1, e2]
    exact hx
  · simp at hm
    rcases hm with rfl | hm
    · exact h.r.bG hx
    · exact h.r.apart g hm hx
  · rcases hg' g hx with h1 | h1
    · exact h.r.apart g h1 hm
    · have := (h.r.got.lt g hm).2; omega
  · exact h.r.said
  · simp only [endBlocks, List.mem_cons, List.mem_append] at hm
    rcases hm with hm | hm | hm
    · exact h.far g hx (by simp [endBlocks, hm])
    · rcases hg' g hm with h1 | h1
      · exact h.far g hx (by simp [endBlocks, h1])
      · have := (h.e.lt g hx).2; omega
    · exact h.far g hx (by simp [endBlocks, hm])
theorem two_new {w2 w3 : World} {B b : Nat} {n t : Nat} (he : EndAt w2 B b none 0 none 0 (LEnd.new n t)) (hB : B ≤ w2.heap.size)
    (h3 : w3 = w2.alloc (.cells ((LEnd.new n t).rcells 0 none 0 none 0) 40)) : Two w3 B b w2.heap.size none 0 none 0 none 0 none 0 [] (LEnd.new n t) (LEnd.new n t) := by
  subst h3
  refine ⟨he.below ((Below.refl _ _).alloc (Nat.le_refl _) _), ⟨Blk.new w2 _ _, hB, Own.nil _ _ _ _, Own.nil _ _ _ _, by simp [ob], rfl, Nat.le_refl _⟩, fun g hg => ?_⟩
  have := (he.lt g hg).2
  simp [endBlocks, ob]
  omega
set_option maxRecDepth 100000 in
set_option maxHeartbeats 4000000 in
theorem walk (w : World) (win wait : Int) (A1 A2 A3 : Option Addr) (c1 c2 c3 : Nat) (steps : List Int) (data : List ByteArray) (frames : List LFrame) (hg : Glob w)
    (h1 : Reads w w.heap.size 1 A1 steps.length (steps.map (Value.int .i64))) (h2 : Reads w w.heap.size 1 A2 data.length (strs data)) (h3 : Reads w w.heap.size 3 A3 frames.length (fcells frames)) (hd : ∀ x ∈ data, x.size ≤ 9223372036854775807) (hf : ∀ x ∈ frames, x.data.size ≤ 9223372036854775807) :
    Calls Tryd.prog 4 #[.int .i64 win, .int .i64 wait, .slice A1 steps.length c1, .slice A2 data.length c2, .slice A3 frames.length c3] w (CheckPost w (.bool true)) := by
  by_cases hok : 1 ≤ win ∧ win ≤ 16 ∧ 1 ≤ wait ∧ wait ≤ 20
  · obtain ⟨k1, k2, k3, k4⟩ := hok
    obtain ⟨n, rfl⟩ : ∃ n : Nat, win = (n : Int) := ⟨win.toNat, by omega⟩
    obtain ⟨t, rfl⟩ : ∃ t : Nat, wait = (t : Int) := ⟨wait.toNat, by omega⟩
    have d1 : decide ((n : Int) < 1) = false := decide_eq_false (by omega)
    have d2 : decide ((16 : Int) < (n : Int)) = false := decide_eq_false (by omega)
    have d3 : decide ((t : Int) < 1) = false := decide_eq_false (by omega)
    have d4 : decide ((20 : Int) < (t : Int)) = false := decide_eq_false (by omega)
    have HN := Lib.hid (fun w => new_ok w n t (by omega) (by omega) (by omega) (by omega))
    have HG := Lib.hid hg
    have HR1 := Lib.hid h1
    have HR2 := Lib.hid h2
    have HR3 := Lib.hid h3
    have HD1 := Lib.hid hd
    have HF1 := Lib.hid hf
    clear h1 h2 h3 hd hf
    have HUP := Lib.hid (LEnd.Upto.new (win := n) (wait := t) (by omega) (by omega) (by omega) (by omega))
    go_enter Tryd.func4, Tryd.ntmps4
    go_wp2_with fail
    refine (HN.out _).mono ?_
    rintro e w1 ⟨rfl, hE, hb1⟩
    go_wp2_with fail
    have HER := Lib.hid (fun w (h : Glob w) k e => error_any w k e h)
    have HG1 : Hid (Glob w1) := HG.out.below hb1 (Nat.le_refl _)
    refine (HER.out _ HG1.out 0 0).mono ?_
    rintro e w2 ⟨rfl, hb2⟩
    rw [show ((0 : Int) == 0) = true from rfl]
    have HT : Hid (Two (w2.alloc (.cells ((LEnd.new n t).rcells 0 none 0 none 0) 40)) w.heap.size w.heap.size w2.heap.size none 0 none 0 none 0 none 0 [] (LEnd.new n t) (LEnd.new n t)) :=
      two_new (hE.below hb2) (Nat.le_trans hb1.size hb2.size) rfl
    have HB : Hid (Below w.heap.size w (w2.alloc (.cells ((LEnd.new n t).rcells 0 none 0 none 0) 40))) := (hb1.trans (hb2.mono hb1.size)).alloc (Nat.le_trans hb1.size hb2.size) _
    go_wp2_with fail
    go_loopw [11, 14, 16] (fun e t i wr => PlayLoop w w.heap.size w2.heap.size e t i wr) (fun _ _ i _ => 80 - (intOf i).toNat)
    case atStart => exact ⟨0, 0, true, none, 0, none, 0, none, 0, none, 0, [], LEnd.new n t, by omega, rfl, rfl, rfl, HT, HUP, HB⟩
    case round =>
      obtain ⟨k, ei, ti, A, ca, G, cg, RA, rca, RG, rcg, gone, st, hk, rfl, rfl, rfl, HT, HU, HB⟩ := hrel
      by_cases hlt : k < steps.length ∧ k < 80
      · obtain ⟨k1, k2⟩ := hlt
        have k3 : (0 : Int) ≤ (k : Int) := by omega
        have k4 : (k : Int) < (steps.length : Int) := by omega
        obtain ⟨ad, u, hA, _, hu, hc⟩ := (HR1.out.below HB.out).at_ k1
        have hu' : u = .int .i64 steps[k] := by simpa [k1] using hu.symm
        subst hu' hA
        clear hu
        go_upto_block 2 with (fail)
        go_cut [11, 14] (fun e t wx => PlayMid w w.heap.size w2.heap.size k e t wx)
        case first => as_aux_lemma =>
          by_cases s01 : steps[k] = 0 ∨ steps[k] = 1
          · go_upto_if 112 with (fail)
            go_cut [112] (fun v wx => v = .bool true ∧ wx = wr)
            case first => as_aux_lemma =>
              rcases s01 with s0 | s1
              · have z0 : (steps[k] == 0) = true := by rw [beq_iff_eq]; exact s0
                clear s0
                go_wp2_with fail
                go_meet
                case rel => exact ⟨by first | rfl | rw [z0], rfl⟩
              · have z0 : (steps[k] == 0) = false := by rw [beq_eq_false_iff_ne]; omega
                have z1 : (steps[k] == 1) = true := by rw [beq_iff_eq]; exact s1
                clear s1
                go_wp2_with fail
                go_meet
                case rel => exact ⟨by first | rfl | rw [z1], rfl⟩
            case rest => as_aux_lemma =>
              obtain ⟨rfl, hwc⟩ := hcut
              subst wc
              go_upto_if 117 with (fail)
              go_cut [17] (fun s wx => ∃ x : ByteArray, x.size ≤ 9223372036854775807 ∧ s = .string x ∧ wx = wr)
              case first => as_aux_lemma =>
                by_cases hd0 : 0 < data.length
                · have m0 : decide (0 < data.length) = true := decide_eq_true hd0
                  have hr : k % data.length < data.length := Nat.mod_lt _ hd0
                  have hrc : (k : Int) % (data.length : Int) = ((k % data.length : Nat) : Int) := (Int.natCast_emod k data.length).symm
                  obtain ⟨ag, hG, _, cg1⟩ := (HR2.out.below HB.out).text hr
                  have hs1 : (data[k % data.length]).size ≤ 9223372036854775807 := HD1.out _ (List.getElem_mem _)
                  subst hG
                  generalize data[k % data.length] = x at *
                  have hrt : Int.tmod (k : Int) (data.length : Int) = ((k % data.length : Nat) : Int) := by rw [Int.tmod_eq_emod_of_nonneg (by omega)]; exact hrc
                  generalize k % data.length = r at *
                  have r0 : (0 : Int) ≤ (r : Int) := by omega
                  have r1 : (r : Int) < (data.length : Int) := by omega
                  have r2 : ¬ ((data.length : Int) = 0) := by omega
                  go_wp2_with fail
                  go_meet
                  case rel => exact ⟨x, hs1, rfl, rfl⟩
                · have m0 : decide (0 < data.length) = false := decide_eq_false hd0
                  go_wp2_with fail
                  go_meet
                  case rel => exact ⟨⟨#[]⟩, by decide, rfl, rfl⟩
              case rest => as_aux_lemma =>
                obtain ⟨x, hx, rfl, hwc⟩ := hcut
                subst wc
                obtain ⟨N, HN⟩ : ∃ N, Hid (N = (gone ++ st.data).length) := ⟨_, rfl⟩
                have hln : N = gone.length + st.data.length := by rw [HN.out, List.length_append]
                have hgp := HT.out.r.past
                have hdl := HU.out.data
                have hak := HU.out.all
                have c2 : wr.cell? ⟨w2.heap.size, 2, none⟩ = some (.slice RA N rca) := by rw [HT.out.r.blk.cell, HN.out]; rfl
                have c3 : wr.cell? ⟨w2.heap.size, 3, none⟩ = some (.int .i64 st.acked) := by rw [HT.out.r.blk.cell]; rfl
                have f2 := HT.out.r.blk.frozen 2
                have q4 : IntKind.i64.wrap ((N : Int) - (st.acked : Int)) = (N : Int) - (st.acked : Int) := IntWalk.i64_in _ (by omega)
                have HGr : Hid (Glob wr) := HG.out.below HB.out (Nat.le_refl _)
                by_cases hfull : 200 < x.size ∨ 100 ≤ st.data.length
                · have HSE := Lib.hid (fun W (h : EndAt W w.heap.size w.heap.size A ca G cg st) => send_full W w.heap.size w.heap.size A G ca cg st x h hfull (by unfold maxLen; omega) (by omega))
                  have HUS := Lib.hid HU.out.stay
                  by_cases g1 : 200 < x.size
                  · have g2 : decide (200 < x.size) = true := decide_eq_true g1
                    have g2i : decide ((200 : Int) < (x.size : Int)) = true := decide_eq_true (by omega)
                    clear hln hgp hak hfull hdl
                    go_wp2_with fail
                    go_quiet (fail)
                    go_wp2_with fail
                    refine (HSE.out _ (endAt_any HT.out.e _)).mono ?_
                    rintro e w4 ⟨rfl, hE⟩
                    obtain ⟨A', ca', G', cg', hT4⟩ := (two_any HT.out _).step hE
                    have HB4 : Hid (Below w.heap.size w w4) := (below_drewN HB.out _).trans (endTo_below (endAt_any HT.out.e _) hE)
                    have HT4 := Lib.hid hT4
                    have HG4 : Hid (Glob w4) := HG.out.below HB4.out (Nat.le_refl _)
                    clear hE hT4
                    rw [errV_ne (by decide)]
                    go_wp2_with fail
                    refine (HER.out _ HG4.out 4 4).mono ?_
                    rintro e w5 ⟨rfl, hb5⟩
                    rw [show ((4 : Int) == 4) = true from rfl]
                    have HB5 : Hid (Below w.heap.size w w5) := HB4.out.trans (hb5.mono HB4.out.size)
                    have HT5 := Lib.hid (HT4.out.below hb5)
                    clear hb5
                    go_wp2_with fail
                    go_meet
                    case rel => exact ⟨4, A', ca', G', cg', RA, rca, RG, rcg, gone, st, rfl, rfl, HT5, HUS, HB5⟩
                  · have g2 : decide (200 < x.size) = false := decide_eq_false g1
                    have g2i : decide ((200 : Int) < (x.size : Int)) = false := decide_eq_false (by omega)
                    have g3 : decide (100 ≤ (N : Int) - (st.acked : Int)) = true := decide_eq_true (by omega)
                    clear hln hgp hak hfull hdl
                    go_wp2_with fail
                    go_quiet (fail)
                    go_wp2_with fail
                    refine (HSE.out _ (endAt_any HT.out.e _)).mono ?_
                    rintro e w4 ⟨rfl, hE⟩
                    obtain ⟨A', ca', G', cg', hT4⟩ := (two_any HT.out _).step hE
                    have HB4 : Hid (Below w.heap.size w w4) := (below_drewN HB.out _).trans (endTo_below (endAt_any HT.out.e _) hE)
                    have HT4 := Lib.hid hT4
                    have HG4 : Hid (Glob w4) := HG.out.below HB4.out (Nat.le_refl _)
                    clear hE hT4
                    rw [errV_ne (by decide)]
                    go_wp2_with fail
                    refine (HER.out _ HG4.out 4 4).mono ?_
                    rintro e w5 ⟨rfl, hb5⟩
                    rw [show ((4 : Int) == 4) = true from rfl]
                    have HB5 : Hid (Below w.heap.size w w5) := HB4.out.trans (hb5.mono HB4.out.size)
                    have HT5 := Lib.hid (HT4.out.below hb5)
                    clear hb5
                    go_wp2_with fail
                    go_meet
                    case rel => exact ⟨4, A', ca', G', cg', RA, rca, RG, rcg, gone, st, rfl, rfl, HT5, HUS, HB5⟩
                · have g2 : decide (200 < x.size) = false := decide_eq_false (by omega)
                  have g2i : decide ((200 : Int) < (x.size : Int)) = false := decide_eq_false (by omega)
                  have g3 : decide (100 ≤ (N : Int) - (st.acked : Int)) = false := decide_eq_false (by omega)
                  have HSE := Lib.hid (fun W (h : EndAt W w.heap.size w.heap.size A ca G cg st) => send_ok W w.heap.size w.heap.size A G ca cg st x h (by omega) (by omega))
                  have HUS := Lib.hid (HU.out.send x (by omega))
                  have HOW : Hid (Own wr w.heap.size 9 1 RA N rca (strs (gone ++ st.data))) := by show Own _ _ _ _ _ _ _ _; rw [HN.out]; exact HT.out.r.data
                  have HRR := Lib.hid (fun W : World => Reads.row W 9 #[.string x])
                  have HF : Fits (N + 1) 16 := Fits.of_small (by omega) (by decide)
                  have hbase : w.heap.size ≤ wr.heap.size := HB.out.size
                  have HBK : Hid (Blk wr w2.heap.size 40 (st.rcells N RA rca RG rcg)) := by show Blk _ _ _ _; rw [HN.out]; exact HT.out.r.blk
                  have HbA := Lib.hid HT.out.r.bA
                  clear hln hgp hak hfull hdl
                  go_wp2_with fail
                  go_quiet (fail)
                  go_wp2_with (at_builtin; go_loud (refine wpList_app _ (.tmp 145) (.tmp 147) rfl rfl elemS rfl rfl ((HOW.out.drewN _).alloc _) (HRR.out _) (oneCells_strs [x]) HF (by simp; omega) ?_; intro V cV w3 hO hL hg; have hb2 := hL.blk ((HBK.out.drewN _).alloc _) HbA.out; have n2 : w3.cell? ⟨w2.heap.size, 2, none⟩ = some (.slice RA N rca) := (by rw [hb2.cell]; rfl); have f2' := hb2.frozen 2; have HR3 := Lib.hid (two_rsend (two_any HT.out _) x HN.out hO hL hg); clear hO hL hg hb2))
                  refine (HSE.out _ HR3.out.1.e).mono ?_
                  rintro e w4 ⟨rfl, hE⟩
                  obtain ⟨A', ca', G', cg', hT4⟩ := HR3.out.1.step hE
                  have HB3 := Lib.hid ((below_drewN HB.out _).trans (HR3.out.2.below HB.out.size (fun g hg => (HT.out.r.lt g (by simp at hg; simp [endBlocks]; rcases hg with h1 | h1 <;> simp [h1])).1)))
                  have HB4 : Hid (Below w.heap.size w w4) := HB3.out.trans (endTo_below HR3.out.1.e hE)
                  have HT4 := Lib.hid hT4
                  have HG4 : Hid (Glob w4) := HG.out.below HB4.out (Nat.le_refl _)
                  clear hE hT4
                  go_wp2_with fail
                  refine (HER.out _ HG4.out 0 0).mono ?_
                  rintro e w5 ⟨rfl, hb5⟩
                  rw [show ((0 : Int) == 0) = true from rfl]
                  have HB5 : Hid (Below w.heap.size w w5) := HB4.out.trans (hb5.mono HB4.out.size)
                  have HT5 := Lib.hid (HT4.out.below hb5)
                  clear hb5
                  go_wp2_with fail
                  go_meet
                  case rel => exact ⟨0, A', ca', G', cg', V, cV, RG, rcg, gone, st.send x, rfl, rfl, HT5, HUS, HB5⟩
          · by_cases s2 : steps[k] = 2
            · have z0 : (steps[k] == 0) = false := by rw [beq_eq_false_iff_ne]; omega
              have z1 : (steps[k] == 1) = false := by rw [beq_eq_false_iff_ne]; omega
              have z2 : (steps[k] == 2) = true := by rw [beq_iff_eq]; exact s2
              clear s01 s2
              have HRO := Lib.hid (rout_any wr w.heap.size w2.heap.size RA rca RG rcg gone st HT.out.r (HU.out.ok (by omega)))
              go_wp2_with fail
              refine HRO.out.mono ?_
              rintro e w3 ⟨VR, cR, rfl, hOR, hER, hoR⟩
              have hT3 := HT.out.rturn hER hoR
              have HO := Lib.hid (out_any w3 w.heap.size w.heap.size A ca G cg st hT3.e (HU.out.ok (by omega)))
              go_wp2_with fail
              refine HO.out.mono ?_
              rintro e w4 ⟨V, cV, rfl, hO, hE, ho⟩
              have HT4 := Lib.hid (hT3.turn hE ho)
              have HU4 := Lib.hid HU.out.out
              have hBr : w.heap.size ≤ wr.heap.size := HB.out.size
              have HB4 : Hid (Below w.heap.size w w4) := (HB.out.trans (hoR.below hBr (by simp; exact HT.out.r.base))).trans (ho.below (Nat.le_trans hBr hoR.size) (by simp))
              have hbr : w.heap.size < wr.heap.size := HT.out.e.blk.lt
              have HRR := Lib.hid (hOR.only ho (fun g hg hm => by have := hOR.lt g hg; simp at hm; omega)).reads
              have HRV := Lib.hid hO.reads
              have hlen := frames_few HU.out
              generalize hfr : st.outFrames = fr at *
              have HFR := Lib.hid (frames_any w4 V VR cV cR fr fr HRV.out HRR.out hlen hlen)
              have q6 : decide (fr = fr) = true := decide_eq_true rfl
              clear hOR hER hoR hO hE ho hT3 hfr
              go_wp2_with fail
              refine HFR.out.mono ?_
              rintro e w5 ⟨rfl, hb5⟩
              have HB5 : Hid (Below w.heap.size w w5) := HB4.out.trans (hb5.mono HB4.out.size)
              have HT5 := Lib.hid (HT4.out.below hb5)
              clear hb5
              go_wp2_with fail
              go_meet
              case rel => exact ⟨ei, A, ca, G, cg, RA, rca, RG, rcg, gone, st.out, rfl, rfl, HT5, HU4, HB5⟩
            · have z0 : (steps[k] == 0) = false := by rw [beq_eq_false_iff_ne]; omega
              have z1 : (steps[k] == 1) = false := by rw [beq_eq_false_iff_ne]; omega
              have z2 : (steps[k] == 2) = false := by rw [beq_eq_false_iff_ne]; omega
              by_cases s3 : steps[k] = 3
              · have z3 : (steps[k] == 3) = true := by rw [beq_iff_eq]; exact s3
                have c5 : wr.cell? ⟨w2.heap.size, 5, none⟩ = some (.int .i64 st.ticks) := by rw [HT.out.r.blk.cell]; rfl
                have f5 := HT.out.r.blk.frozen 5
                have ht := HU.out.ticks
                have hU1 := Lib.hid HU.out.tick
                have HR3 := Lib.hid (two_rtick HT.out)
                clear s01 s2 s3
                go_wp2_with fail
                have HTk := Lib.hid (tick_any _ w.heap.size w.heap.size A G ca cg st HR3.out.1.e (by omega))
                refine HTk.out.mono ?_
                rintro e w4 ⟨rfl, hE, ho⟩
                have HT4 := Lib.hid (HR3.out.1.turn hE ho)
                have hBr : w.heap.size ≤ wr.heap.size := HB.out.size
                have HB4 : Hid (Below w.heap.size w w4) := (HB.out.trans (HR3.out.2.below hBr (by simp; exact HT.out.r.base))).trans (ho.below (Nat.le_trans hBr HR3.out.2.size) (by simp))
                clear hE ho
                go_wp2_with fail
                go_meet
                case rel => exact ⟨ei, A, ca, G, cg, RA, rca, RG, rcg, gone, st.tick, rfl, rfl, HT4, hU1, HB4⟩
              · have z3 : (steps[k] == 3) = false := by rw [beq_eq_false_iff_ne]; omega
                have hadb : (ad.add k).block < wr.heap.size := by rw [block_of_add]; have := HB.out.size; omega
                have hca : ∀ o, (wr.alloc o).cell? (ad.add k) = some (.int .i64 steps[k]) := fun o => (World.cell?_alloc_lt wr o _ hadb).trans hc
                have HCA := Lib.hid hca
                have hrl : w2.heap.size < wr.heap.size := HT.out.r.blk.lt
                clear hca hadb
                go_upto_if 72 with (fail)
                go_cut [20] (fun v wx => v = .pointer (some ⟨wr.heap.size, 0, none⟩) ∧ ∃ f : LFrame, f.data.size ≤ 9223372036854775807 ∧ wx = wr.alloc (.cells #[.bool f.ack, .int .i64 f.seq, .string f.data] 45))
                case first => as_aux_lemma =>
                  by_cases hd0 : 0 < frames.length
                  · have m0 : decide (0 < frames.length) = true := decide_eq_true hd0
                    have hr : k % frames.length < frames.length := Nat.mod_lt _ hd0
                    have hrc : (k : Int) % (frames.length : Int) = ((k % frames.length : Nat) : Int) := (Int.natCast_emod k frames.length).symm
                    obtain ⟨ag, hG, hagb, cg1, cg2, cg3⟩ := (HR3.out.below HB.out).frame hr
                    have hs1 : (frames[k % frames.length]).data.size ≤ 9223372036854775807 := HF1.out _ (List.getElem_mem _)
                    subst hG
                    have hrt : Int.tmod (k : Int) (frames.length : Int) = ((k % frames.length : Nat) : Int) := by rw [Int.tmod_eq_emod_of_nonneg (by omega)]; exact hrc
                    generalize frames[k % frames.length] = x at *
                    generalize k % frames.length = r at *
                    have r0 : (0 : Int) ≤ (r : Int) := by omega
                    have r1 : (r : Int) < (frames.length : Int) := by omega
                    have r2 : ¬ ((frames.length : Int) = 0) := by omega
                    have hagl : (ag.add (r * 3)).block < wr.heap.size := by rw [block_of_add]; have := HB.out.size; omega
                    have a1 : ∀ o, (wr.alloc o).cell? (ag.add (r * 3)) = some (.bool x.ack) := fun o => (World.cell?_alloc_lt wr o _ hagl).trans cg1
                    have a2 : ∀ o, (wr.alloc o).cell? ⟨(ag.add (r * 3)).block, (ag.add (r * 3)).off + 1, none⟩ = some (.int .i64 x.seq) := fun o => (World.cell?_alloc_lt wr o _ (by exact hagl)).trans cg2
                    have a3 : ∀ o, (wr.alloc o).cell? ⟨(ag.add (r * 3)).block, (ag.add (r * 3)).off + 2, none⟩ = some (.string x.data) := fun o => (World.cell?_alloc_lt wr o _ (by exact hagl)).trans cg3
                    have A1 := a1 (.cells #[.bool false, .int .i64 0, .string ⟨#[]⟩] 45)
                    have A2 := a2 (.cells #[.bool false, .int .i64 0, .string ⟨#[]⟩] 45)
                    have A3 := a3 (.cells #[.bool false, .int .i64 0, .string ⟨#[]⟩] 45)
                    clear a1 a2 a3 hagl
                    go_wp2_with fail
                    go_meet
                    case rel => exact ⟨rfl, x, hs1, rfl⟩
                  · have m0 : decide (0 < frames.length) = false := decide_eq_false hd0
                    go_wp2_with fail
                    go_meet
                    case rel => exact ⟨rfl, ⟨false, 0, ⟨#[]⟩⟩, by decide, rfl⟩
                case rest => as_aux_lemma =>
                  obtain ⟨rfl, f, hfs, hwc⟩ := hcut
                  subst wc
                  obtain ⟨fa, fs, fd⟩ := f
                  simp only at hfs
                  have C1 := HCA.out (.cells #[.bool fa, .int .i64 fs, .string fd] 45)
                  have C2 := HCA.out (.cells #[.bool true, .int .i64 st.said, .string ⟨#[]⟩] 45)
                  have c4 : wr.cell? ⟨w2.heap.size, 4, none⟩ = some (.int .i64 st.said) := by rw [HT.out.r.blk.cell]; rfl
                  have c6 : wr.cell? ⟨w2.heap.size, 6, none⟩ = some (.slice RG st.got.length rcg) := by rw [HT.out.r.blk.cell]; rfl
                  have d4 : (wr.alloc (.cells #[.bool fa, .int .i64 fs, .string fd] 45)).cell? ⟨w2.heap.size, 4, none⟩ = some (.int .i64 st.said) := (World.cell?_alloc_lt wr _ _ hrl).trans c4
                  have d6 : (wr.alloc (.cells #[.bool fa, .int .i64 fs, .string fd] 45)).cell? ⟨w2.heap.size, 6, none⟩ = some (.slice RG st.got.length rcg) := (World.cell?_alloc_lt wr _ _ hrl).trans c6
                  have hgl := HU.out.got
                  have q6 : IntKind.i64.wrap ((st.got.length : Int) + 1) = (st.got.length : Int) + 1 := IntWalk.i64_in _ (by omega)
                  go_upto_if 84 with (fail)
                  go_cut [20] (fun v wx => v = .pointer (some ⟨wr.heap.size, 0, none⟩) ∧ ((steps[k] == 4) = false → (wx = wr.alloc (.cells #[.bool fa, .int .i64 fs, .string fd] 45))) ∧ ((steps[k] == 4) = true → (wx = wr.alloc (.cells #[.bool true, .int .i64 st.said, .string ⟨#[]⟩] 45))))
                  case first => as_aux_lemma =>
                    by_cases s4 : steps[k] = 4
                    · have z4 : (steps[k] == 4) = true := by rw [beq_iff_eq]; exact s4
                      clear s4
                      go_wp2_with fail
                      go_meet
                      case rel => exact ⟨rfl, fun h => absurd (z4.symm.trans h) (by decide), fun _ => rfl⟩
                    · have z4 : (steps[k] == 4) = false := by rw [beq_eq_false_iff_ne]; omega
                      clear s4
                      go_wp2_with fail
                      go_meet
                      case rel => exact ⟨rfl, fun _ => rfl, fun h => absurd (z4.symm.trans h) (by decide)⟩
                  case rest => as_aux_lemma =>
                    obtain ⟨rfl, hw0, hw1⟩ := hcut
                    have hwx : ∃ f : LFrame, f.data.size ≤ 9223372036854775807 ∧ wc = wr.alloc (.cells #[.bool f.ack, .int .i64 f.seq, .string f.data] 45) := by
                      cases hz : (steps[k] == 4) with
                      | false => exact ⟨⟨fa, fs, fd⟩, hfs, hw0 hz⟩
                      | true => exact ⟨⟨true, st.said, ⟨#[]⟩⟩, Nat.zero_le _, hw1 hz⟩
                    clear hw0 hw1 d4 d6 C1 C2 hfs
                    obtain ⟨⟨fa, fs, fd⟩, hfs, hwc⟩ := hwx
                    subst wc
                    simp only at hfs
                    have C1 := HCA.out (.cells #[.bool fa, .int .i64 fs, .string fd] 45)
                    have d6 : (wr.alloc (.cells #[.bool fa, .int .i64 fs, .string fd] 45)).cell? ⟨w2.heap.size, 6, none⟩ = some (.slice RG st.got.length rcg) := (World.cell?_alloc_lt wr _ _ hrl).trans c6
                    go_upto_if 94 with (fail)
                    go_cut [20] (fun v wx => v = .pointer (some ⟨wr.heap.size, 0, none⟩) ∧ ∃ (f : LFrame) (m : Nat), f.data.size ≤ 9223372036854775807 ∧ wx = (wr.alloc (.cells #[.bool f.ack, .int .i64 f.seq, .string f.data] 45)).drewN m)
                    case first => as_aux_lemma =>
                      by_cases s5 : steps[k] = 5
                      · have z5 : (steps[k] == 5) = true := by rw [beq_iff_eq]; exact s5
                        clear s5
                        go_wp2_with fail
                        go_region
                        all_goals
                          go_wp2_with fail
                          go_meet
                          case rel => exact ⟨rfl, ⟨false, (st.got.length : Int) + 1, fd⟩, 1, hfs, rfl⟩
                      · have z5 : (steps[k] == 5) = false := by rw [beq_eq_false_iff_ne]; omega
                        clear s5
                        go_wp2_with fail
                        go_meet
                        case rel => exact ⟨rfl, ⟨fa, fs, fd⟩, 0, hfs, rfl⟩
                    case rest => as_aux_lemma =>
                      obtain ⟨rfl, ⟨fa, fs, fd⟩, m, hfs, hwc⟩ := hcut
                      subst wc
                      have hb1 : Below wr.heap.size wr ((wr.alloc (.cells #[.bool fa, .int .i64 fs, .string fd] 45)).drewN m) := below_drewN ((Below.refl _ _).alloc (Nat.le_refl _) _) m
                      have HT1 := Lib.hid (HT.out.below hb1)
                      have hok := HU.out.ok (by omega)
                      have HUH := Lib.hid (HU.out.hear ⟨fa, fs, fd⟩)
                      have HRH := Lib.hid (rhear_any _ w.heap.size w2.heap.size RA RG rca rcg gone st ⟨fa, fs, fd⟩ HT1.out.r hok hfs)
                      have HBK : Hid (Blk ((wr.alloc (.cells #[.bool fa, .int .i64 fs, .string fd] 45)).drewN m) wr.heap.size 45 #[.bool fa, .int .i64 fs, .string fd]) := (Blk.new wr _ _).drewN m
                      have HHA := Lib.hid (fun W A ca G cg (h : EndAt W w.heap.size w.heap.size A ca G cg st) => hear_any W w.heap.size w.heap.size A G ca cg st ⟨fa, fs, fd⟩ h hok hfs)
                      have hnb : ∀ g ∈ endBlocks w2.heap.size RA RG, g < wr.heap.size := fun g hg => (HT.out.r.lt g hg).2
                      have HNB := Lib.hid hnb
                      clear hnb c4 c6 d6 C1 hok hfs
                      go_wp2_with fail
                      refine HRH.out.mono ?_
                      rintro e w3 ⟨rfl, hE⟩
                      obtain ⟨RA', rca', RG', rcg', gone', hT3⟩ := HT1.out.rstep hE
                      have HT3 := Lib.hid hT3
                      have hB3 : Below w.heap.size w w3 := (HB.out.trans (hb1.mono HB.out.size)).trans (rendTo_below HT1.out.r hE)
                      obtain ⟨_, _, _, _, _, _, ho3, _⟩ := hE
                      have hbk3 := ho3.blk HBK.out (fun hm => by have := HNB.out _ hm; omega)
                      have HB3 := Lib.hid hB3
                      have e0 : w3.cell? ⟨wr.heap.size, 0, none⟩ = some (.bool fa) := by rw [hbk3.cell]; rfl
                      have e1 : w3.cell? ⟨wr.heap.size, 1, none⟩ = some (.int .i64 fs) := by rw [hbk3.cell]; rfl
                      have e2 : w3.cell? ⟨wr.heap.size, 2, none⟩ = some (.string fd) := by rw [hbk3.cell]; rfl
                      clear hT3 hB3 ho3 hbk3 hb1
                      generalize hhe : st.hearErr ⟨fa, fs, fd⟩ = he at *
                      have HHE := Lib.hid hhe
                      clear hhe
                      go_wp2_with fail
                      refine (HHA.out w3 A ca G cg HT3.out.e).mono ?_
                      rintro e w4 ⟨rfl, hE⟩
                      obtain ⟨A', ca', G', cg', hT4⟩ := HT3.out.step hE
                      have HT4 := Lib.hid hT4
                      have HB4 : Hid (Below w.heap.size w w4) := HB3.out.trans (endTo_below HT3.out.e hE)
                      have HG4 : Hid (Glob w4) := HG.out.below HB4.out (Nat.le_refl _)
                      clear hE hT4
                      go_wp2_with fail
                      refine (HER.out _ HG4.out he he).mono ?_
                      rintro e w5 ⟨rfl, hb5⟩
                      rw [show (he == he) = true from by simp]
                      have HB5 : Hid (Below w.heap.size w w5) := HB4.out.trans (hb5.mono HB4.out.size)
                      have HT5 := Lib.hid (HT4.out.below hb5)
                      clear hb5
                      go_wp2_with fail
                      go_meet
                      case rel => exact ⟨he, A', ca', G', cg', RA', rca', RG', rcg', gone', st.hear ⟨fa, fs, fd⟩, rfl, rfl, HT5, HUH, HB5⟩
        case rest => as_aux_lemma =>
          obtain ⟨ei', A', ca', G', cg', RA', rca', RG', rcg', gone', st', rfl, rfl, HT2, HU2, HB2⟩ := hcut
          have hgl : st'.got.length ≤ 100000 := by have := HU2.out.got; omega
          have hdl : st'.data.length ≤ 1000 := by have := HU2.out.data; omega
          have HGT := Lib.hid (fun W (h : EndAt W w.heap.size w.heap.size A' ca' G' cg' st') => got_any W w.heap.size w.heap.size A' G' ca' cg' st' h hgl)
          have HLF := Lib.hid (fun W (h : EndAt W w.heap.size w.heap.size A' ca' G' cg' st') => left_any W w.heap.size w.heap.size A' G' ca' cg' st' h hdl)
          have HTX := Lib.hid (fun W V c (h1 : Reads W W.heap.size 1 V st'.got.length (strs st'.got)) (h2 : Reads W W.heap.size 1 RG' st'.got.length (strs st'.got)) => texts_any W V RG' c rcg' st'.got st'.got h1 h2 (by omega) (by omega))
          have r6 : wc.cell? ⟨w2.heap.size, 6, none⟩ = some (.slice RG' st'.got.length rcg') := by rw [HT2.out.r.blk.cell]; rfl
          have hrb : w2.heap.size < wc.heap.size := HT2.out.r.blk.lt
          go_wp2_with fail
          go_region_held3 (fun w' => w'.cell? ⟨w2.heap.size, 6, none⟩ = some (.slice RG' st'.got.length rcg'))
            (first | go_keep | assumption)
            (first
              | (go_at_call 19; refine (HGT.out _ (by first | exact HT2.out.e | exact endAt_drew HT2.out.e)).mono ?_; rintro e3 w3 ⟨V, cV, rfl, hO3, hb3'⟩; have hb3 : Below wc.heap.size wc w3 := ⟨hb3'.os, hb3'.tape, hb3'.output, hb3'.size, hb3'.block⟩; have r6' : w3.cell? ⟨w2.heap.size, 6, none⟩ = some (.slice RG' st'.got.length rcg') := (hb3.cell hrb).trans r6; have HO3 := Lib.hid hO3; have HB3 := Lib.hid hb3; clear hO3 hb3 hb3')
              | (go_at_call 18; refine (HTX.out _ _ _ HO3.out.reads (HT2.out.below HB3.out).r.got.reads).mono ?_; rintro e4 w4 ⟨rfl, hb4⟩; have r6'' : w4.cell? ⟨w2.heap.size, 6, none⟩ = some (.slice RG' st'.got.length rcg') := (hb4.cell (Nat.lt_of_lt_of_le hrb HB3.out.size)).trans r6'; have HB4 := Lib.hid hb4; clear hb4))
          have HT4 := Lib.hid ((HT2.out.below HB3.out).below HB4.out)
          have HBW : Hid (Below w.heap.size w w4) := (HB2.out.trans (HB3.out.mono HB2.out.size)).trans (HB4.out.mono (Nat.le_trans HB2.out.size HB3.out.size))
          have hgp := HT2.out.r.past
          have hln : (gone' ++ st'.data).length = gone'.length + st'.data.length := List.length_append
          have q2 : w4.cell? ⟨w2.heap.size, 2, none⟩ = some (.slice RA' (gone' ++ st'.data).length rca') := by rw [HT4.out.r.blk.cell]; rfl
          have q3 : w4.cell? ⟨w2.heap.size, 3, none⟩ = some (.int .i64 st'.acked) := by rw [HT4.out.r.blk.cell]; rfl
          have hak := HU2.out.all
          generalize (gone' ++ st'.data).length = N at q2 hln
          have q4 : IntKind.i64.wrap ((N : Int) - (st'.acked : Int)) = (N : Int) - (st'.acked : Int) := IntWalk.i64_in _ (by omega)
          have q5 : ((st'.data.length : Int) != (N : Int) - (st'.acked : Int)) = false := by rw [bne_eq_false_iff_eq]; omega
          have q6 : decide (st'.got = st'.got) = true := decide_eq_true rfl
          have HLF4 := Lib.hid (fun n => HLF.out _ (endAt_any HT4.out.e n))
          clear hgp hln r6 r6' r6'' hak
          go_wp2_with fail
          go_quiet ((go_at_call 20; exact Calls.quiet_of_same (HLF.out _ (by first | exact HT4.out.e | exact endAt_any HT4.out.e _))))
          go_wp2_with fail
          go_roundw
          case rel => exact ⟨k + 1, ei', true, A', ca', G', cg', RA', rca', RG', rcg', gone', st', by omega, rfl, rfl, by go_num, two_any HT4.out _, HU2, below_drewN HBW.out _⟩
          case measure => simp [intOf]; omega
      · by_cases k1 : k < steps.length
        · have m1 : decide ((k : Int) < (steps.length : Int)) = true := by simp; omega
          have m2 : decide ((k : Int) < 80) = false := by simp; omega
          go_wp2_with fail
          go_ret
          exact ⟨rfl, HB.out⟩
        · have m1 : decide ((k : Int) < (steps.length : Int)) = false := by simp; omega
          go_wp2_with fail
          go_ret
          exact ⟨rfl, HB.out⟩
  · have HN := Lib.hid (fun w => new_bad w win wait (by omega))
    have HER := Lib.hid (fun w (h : Glob w) k e => error_any w k e h)
    have HG := Lib.hid hg
    have hor : (decide (win < 1) || decide (16 < win) || decide (wait < 1) || decide (20 < wait)) = true := by
      simp only [Bool.or_eq_true, decide_eq_true_eq]; omega
    by_cases a1 : win < 1 <;> by_cases a2 : 16 < win <;> by_cases a3 : wait < 1 <;> by_cases a4 : 20 < wait
    all_goals first | omega | skip
    all_goals
      go_enter Tryd.func4, Tryd.ntmps4
      go_wp2_with fail
      refine (HN.out _).mono ?_
      rintro e w1 ⟨rfl, rfl⟩
      rw [errV_ne (by decide)]
      go_wp2_with fail
      refine (HER.out _ HG.out 1 1).mono ?_
      rintro e w2 ⟨rfl, hb2⟩
      rw [show ((1 : Int) == 1) = true from rfl]
      go_wp2_with fail
      go_ret
      exact ⟨rfl, hb2⟩
section
open Go.WideShapes Go.ChangeShapes Go.ChangeAt
set_option maxRecDepth 100000 in
theorem lifted (os : Os) (started : os.Started) (H : Type) (enc : TypeId × Value → H) :
    ReturnsInHanded {} Tryd.checked os 4 .any (fun w args => (Rows.linkPlaysSpec.pre enc Tryd.prog Tryd.f4 [] false w args ∧ laidMetH Tryd.prog Card.laid w) ∧ sizedMet enc Tryd.prog Tryd.f4 (OpenSpec.ofChange Rows.linkPlaysSpec) false w args)
      (Rows.linkPlaysSpec.post enc Tryd.prog Tryd.f4 false true false false) := by
  refine returnsInHanded_of_change_and (C := Tryd.checked) (X := fun w _ => laidMetH Tryd.prog Card.laid w) (fun _ _ _ hh h => h.of_heap hh) Tryd.own started (by kernel_rfl) Tryd.func4
    (ChangeSpec.witness_at (enc := enc) (C := Tryd.checked) (os := os) (X := fun w _ => laidMetH Tryd.prog Card.laid w) false (Card.laidWorld os) #[.int .i64 0, .int .i64 0, .slice none 0 0, .slice none 0 0, .slice none 0 0] 8 rfl (by kernel_rfl) (by kernel_rfl) (by kernel_rfl) (by kernel_rfl) (by kernel_rfl) (Card.laidWorld_met os _)) ?_
  intro W base args ds gs before hval0 hW _ hsz0 hL _
  have hval : ∀ (j : Nat) t v, Tryd.f4.params[j]? = some t → args[j]? = some v → Value.okWide Tryd.prog W .any base t v := hval0
  obtain ⟨p, q, hA0, _⟩ := id hW
  have hA : DataW.TrodAll enc Tryd.prog W 0 (fun _ => true) true Tryd.f4.params.toList args.toList ds p := hA0
  have hsz : (DataW.weightsEach Tryd.prog (Tryd.f4.params.toList ++ Rows.linkPlaysSpec.plain.varTypes Tryd.prog) (ds ++ gs)).all (· ≤ reachBytes) = true := hsz0
  rw [Tryd.params4] at hA hval hsz
  obtain ⟨v0, v1, v2, v3, v4, d0, d1, d2, d3, d4, p0, p1, p2, p3, p4, rfl, rfl, rfl, h0, h1, h2, h3, h4⟩ := trodAll_five hA
  obtain ⟨a0, rfl, rfl, rfl, wa0⟩ := open_int Tryd.underlying3 (hval 0 3 v0 rfl rfl) h0
  obtain ⟨a1, rfl, rfl, rfl, wa1⟩ := open_int Tryd.underlying3 (hval 1 3 v1 rfl rfl) h1
  obtain ⟨A2, c2, l2, rfl, r2, g2, _, _⟩ := arg_ints (hval 2 22 v2 rfl rfl) h2
  obtain ⟨A3, c3, l3, rfl, r3, g3, _, _⟩ := arg_strs (hval 3 33 v3 rfl rfl) h3
  obtain ⟨A4, c4, l4, rfl, r4, g4, _, _⟩ := arg_frames (hval 4 34 v4 rfl rfl) h4
  refine (walk W a0 a1 A2 A3 A4 c2 c3 c4 l2 l3 l4 (Card.glob_of_laid hL) r2 r3 r4 (fun x hx => by have := g3 x hx; unfold maxLen at this; omega) (fun x hx => by have := (g4 x hx).1; unfold maxLen at this; omega)).mono fun e W' ⟨he, hb⟩ => ⟨_, he, ?_⟩
  exact law_post Tryd.laidOut (tb := 4) (by kernel_rfl) Tryd.underlying4 (by rw [Tryd.params4]; simp only [List.mem_cons, List.not_mem_nil, or_false]; rintro t (rfl | rfl | rfl | rfl | rfl) <;> exact ⟨by kernel_rfl, of_decide_eq_true (by kernel_rfl)⟩) rfl rfl hW hb

theorem holds : Rows.LinkPlaysSaid :=
  OpenClaim.holds_of_wide 4 Tryd.f4 rfl rfl rfl rfl rfl rfl rfl ⟨rfl, rfl, rfl, rfl, rfl⟩ rfl rfl rfl rfl rfl (by kernel_rfl) Tryd.func4 (by kernel_rfl)
    (of_decide_eq_true (by kernel_rfl)) (by unfold Func.isWrapper; first | (rw [if_pos (by decide +kernel)]; kernel_rfl) | (rw [if_neg (by decide +kernel)]; exact ⟨rfl, rfl⟩))
    (fun os started H enc _ => lifted os started H enc)
theorem noStand : ∀ t ∈ Tryd.f4.params.toList, Tryd.prog.wantsStandIn t = false := by
  rw [Tryd.params4]
  simp only [List.mem_cons, List.not_mem_nil, or_false]
  rintro t (rfl | rfl | rfl | rfl | rfl) <;> kernel_rfl
theorem card_holds : Rows.LinkPlaysCardSaid :=
  Claim7.holds_tied_plain_at .later [] [.handle] true Rows.linkPlaysCard.stood.harness true
    holds (fun _ h => by cases h) (by kernel_rfl) (fun _ h => by cases h) linkPlays_row_tie rfl ⟨rfl, rfl⟩ (by kernel_rfl) rfl
    (fun f fn hf hfn => by
      obtain rfl : f = 4 := Option.some.inj ((show Tryd.prog.funcNamed Rows.linkPlaysRow.func = some 4 by kernel_rfl).symm.trans hf) |>.symm
      obtain rfl : fn = Tryd.f4 := (Option.some.inj (Tryd.func4.symm.trans hfn)).symm
      exact ⟨by kernel_rfl, fun j t ht => noStand t (by
        have := Array.mem_of_getElem? ht
        simpa using this)⟩)
    (by kernel_rfl)
#print axioms card_holds
end
end lawLinkPlays
end Go.Proofs.YtgninfpdomcobaaDoor

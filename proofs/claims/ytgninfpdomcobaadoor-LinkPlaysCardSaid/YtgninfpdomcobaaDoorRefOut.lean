/- The document's end of a line: (*leafref2.End).Out, walked. Conditions: what holds of each end. -/
import Derived.Test.YtgninfpdomcobaaDoorLinkOut
import Derived.Test.YtgninfpdomcobaaDoorSameTexts
namespace Go.Proofs.YtgninfpdomcobaaDoor
open Go.RowKit
set_option linter.unusedVariables false

/-- The cells of the document's end: it keeps what is acknowledged too. -/
def LEnd.rcells (st : LEnd) (n : Nat) (A : Option Addr) (ca : Nat) (G : Option Addr) (cg : Nat) : Array Value :=
  #[.int .i64 st.win, .int .i64 st.wait, .slice A n ca, .int .i64 st.acked, .int .i64 st.said, .int .i64 st.ticks, .slice G st.got.length cg, .bool st.owes]
structure REndAt (w : World) (B b : Nat) (A : Option Addr) (ca : Nat) (G : Option Addr) (cg : Nat) (gone : List ByteArray) (st : LEnd) : Prop where
  blk : Blk w b 40 (st.rcells (gone ++ st.data).length A ca G cg)
  base : B ≤ b
  data : Own w B 9 1 A (gone ++ st.data).length ca (strs (gone ++ st.data))
  got : Own w B 9 1 G st.got.length cg (strs st.got)
  apart : ∀ g ∈ ob A, g ∉ ob G
  past : gone.length = st.acked
  said : st.acked ≤ st.said
section
variable {w w' : World} {B b ca cg : Nat} {A G : Option Addr} {st : LEnd} {gone : List ByteArray}
theorem REndAt.bA (h : REndAt w B b A ca G cg gone st) : b ∉ ob A := h.data.blk_ne h.blk (by decide)
theorem REndAt.bG (h : REndAt w B b A ca G cg gone st) : b ∉ ob G := h.got.blk_ne h.blk (by decide)
end
def ROutPost (w : World) (B b : Nat) (A : Option Addr) (ca : Nat) (G : Option Addr) (cg : Nat) (gone : List ByteArray) (st : LEnd) (e : Ending) (w' : World) : Prop :=
  ∃ V c, e = .returned (.slice V st.outFrames.length c) ∧ Own w' w.heap.size 45 3 V st.outFrames.length c (fcells st.outFrames) ∧ REndAt w' B b A ca G cg gone st.out ∧ Only [b] w w'
def ROutMid (w : World) (b n : Nat) (A : Option Addr) (ca : Nat) (G : Option Addr) (cg : Nat) (st : LEnd) (v : Value) (wr : World) : Prop :=
  ∃ V c, v = .slice V st.ackFrames.length c ∧ Own wr w.heap.size 45 3 V st.ackFrames.length c (fcells st.ackFrames) ∧ Blk wr b 40 (({ st with owes := false } : LEnd).rcells n A ca G cg) ∧ Only [b] w wr
def LEnd.rmid (st : LEnd) (j : Nat) : LEnd := { st with owes := false, ticks := if st.skip < j then 0 else st.ticks, said := max st.said (st.acked + j) }
def ROutLoop (w : World) (b n : Nat) (A : Option Addr) (ca : Nat) (G : Option Addr) (cg : Nat) (st : LEnd) (v i : Value) (wr : World) : Prop :=
  ∃ (j : Nat) (V : Option Addr) (c : Nat), j ≤ st.wide ∧ i = .int .i64 ((st.acked : Int) + j + 1) ∧ v = .slice V (st.pre j).length c ∧ Own wr w.heap.size 45 3 V (st.pre j).length c (fcells (st.pre j)) ∧ Blk wr b 40 ((st.rmid j).rcells n A ca G cg) ∧ Only [b] w wr
theorem base_dr {n : Nat} {W : World} (h : n ≤ W.heap.size) (k : Nat) (o : Obj) : n ≤ ((W.drewN k).alloc o).heap.size := by
  show n ≤ (W.alloc o).heap.size
  simp; omega
set_option maxRecDepth 100000 in
set_option maxHeartbeats 4000000 in
theorem rout_any (w : World) (B b : Nat) (A : Option Addr) (ca : Nat) (G : Option Addr) (cg : Nat) (gone : List ByteArray) (st : LEnd) (h : REndAt w B b A ca G cg gone st) (ok : st.Ok) :
    Calls Tryd.prog 12 #[.pointer (some ⟨b, 0, none⟩)] w (ROutPost w B b A ca G cg gone st) := by
  have c6 : w.cell? ⟨b, 6, none⟩ = some (.slice G st.got.length cg) := by rw [h.blk.cell]; rfl
  have c7 : w.cell? ⟨b, 7, none⟩ = some (.bool st.owes) := by rw [h.blk.cell]; rfl
  go_enter Tryd.func12, Tryd.ntmps12
  go_upto_if 9 with (fail)
  go_cut [3] (fun v wr => ROutMid w b (gone ++ st.data).length A ca G cg st v wr)
  case first =>
    have HB0 := h.blk
    have hok := ok.got
    have HO := (Own.nil w w.heap.size 45 3).alloc (.cells #[.bool true, .int .i64 (st.got.length : Int), .string ⟨#[]⟩] 45)
    cases ho : st.owes with
    | false =>
      rw [ho] at c7
      go_wp2_with fail
      go_meet
      case rel =>
        refine ⟨none, 0, ?_, ?_, ?_, Only.refl _ _⟩
        · simp [LEnd.ackFrames, ho]
        · simpa [LEnd.ackFrames, ho, fcells] using Own.nil w w.heap.size 45 3
        · simpa [LEnd.rcells, ho] using HB0
    | true =>
      rw [ho] at c7
      have HF : Fits (0 + 1) 32 := Fits.of_small (by decide) (by decide)
      go_wp2_with (at_builtin; refine wpList_app _ (.tmp 10) (.tmp 17) rfl rfl elemF rfl rfl HO (Reads.row w 45 #[.bool true, .int .i64 (st.got.length : Int), .string ⟨#[]⟩]) (oneCells_f [⟨true, st.got.length, ⟨#[]⟩⟩]) HF (by simp) ?_; intro V c w1 HO' HL HB; have hb2 := HL.blk (HB0.alloc _) (by simp [ob]); have hc7 : w1.cell? ⟨b, 7, none⟩ = some (.bool true) := by { rw [hb2.cell]; simp [LEnd.rcells, ho] }; have hf7 : w1.frozen? ⟨b, 7, none⟩ = false := hb2.frozen 7)
      go_meet
      case rel =>
        have hL : Only [b] w (w1.setCell ⟨b, 7, none⟩ (.bool false)) := (((Only.refl _ w).alloc _).trans_new HL (fun i hi => by simp [ob] at hi)).setCell (.inl (by simp)) _
        refine ⟨V, c, by simp [LEnd.ackFrames, ho], ?_, ?_, hL⟩
        · have h2 := HO'.only (S := [b]) (w' := w1.setCell ⟨b, 7, none⟩ (.bool false)) ((Only.refl _ _).setCell (.inl (by simp)) _) (fun g hg hm => by
            simp at hm; subst hm
            have := (HO'.lt _ hg).1
            have := h.blk.lt
            omega)
          simpa [LEnd.ackFrames, ho, fcells, LFrame.cells] using h2
        · have h3 := hb2.set_ 7 (.bool false)
          simpa [LEnd.rcells, ho] using h3
  case rest =>
    obtain ⟨V, c, rfl, HO, HB, HL⟩ := hcut
    have hd := ok.data
    have hw2 := ok.win2
    have hwt := ok.wait2
    have hak := ok.acked
    have hsd := ok.said
    have htk := ok.ticks
    have hgl : (gone ++ st.data).length = st.acked + st.data.length := by rw [List.length_append, h.past]
    have k1 : wc.cell? ⟨b, 1, none⟩ = some (.int .i64 st.wait) := by rw [HB.cell]; rfl
    have k3 : wc.cell? ⟨b, 3, none⟩ = some (.int .i64 st.acked) := by rw [HB.cell]; rfl
    have k5 : wc.cell? ⟨b, 5, none⟩ = some (.int .i64 st.ticks) := by rw [HB.cell]; rfl
    go_wp2_with fail
    go_quiet (fail)
    obtain ⟨all, hall⟩ : ∃ all, all = gone ++ st.data := ⟨_, rfl⟩
    rw [← hall] at HB hgl
    have HDT : Hid (Own w B 9 1 A all.length ca (strs all)) := by rw [hall]; exact h.data
    have HAT : Hid (∀ j (hj : j < st.data.length), (strs all)[st.acked + j]? = some (.string st.data[j])) := fun j hj => by
      have hp := h.past
      rw [hall]
      unfold strs
      rw [List.map_append, List.getElem?_append_right (by simp; omega)]
      simp [hp, hj]
    have HALL := Lib.hid hall
    have HGL := Lib.hid hgl
    have hsda := h.said
    have hal : all.length ≤ 200000 := by omega
    clear hall hgl c6 c7
    go_wp2_with fail
    go_loopw [3, 5] (fun v i wr => ROutLoop w b all.length A ca G cg st v i wr) (fun _ i _ => (st.acked + st.wide + 2 - (intOf i).toNat))
    case atStart =>
      refine ⟨0, V, c, by omega, by simp, ?_, ?_, ?_, HL.drewN _⟩
      · simp [LEnd.pre]
      · simpa [LEnd.pre] using HO.drewN _
      · have := HB.drewN nq
        simpa [LEnd.rmid, LEnd.rcells, Nat.max_eq_left hsda] using this
    case round =>
      clear k1 k3 k5
      obtain ⟨j, V', c', hj, rfl, rfl, HO', HB', HL'⟩ := hrel
      have k0 : wr.cell? ⟨b, 0, none⟩ = some (.int .i64 st.win) := by rw [HB'.cell]; rfl
      have k2 : wr.cell? ⟨b, 2, none⟩ = some (.slice A all.length ca) := by rw [HB'.cell]; rfl
      have k3 : wr.cell? ⟨b, 3, none⟩ = some (.int .i64 st.acked) := by rw [HB'.cell]; rfl
      have hw1 : IntKind.i64.wrap ((st.acked : Int) + st.win) = (st.acked : Int) + st.win := by rw [IntWalk.i64_in _ (by omega)]
      have hgl := HGL.out
      by_cases hlt : j < st.wide
      · have hjd : j < st.data.length := by unfold LEnd.wide at hlt; omega
        have hjw : j < st.win := by unfold LEnd.wide at hlt; omega
        have i1 : (st.acked : Int) + j + 1 ≤ (st.acked : Int) + st.win := by omega
        have i2 : (st.acked : Int) + j + 1 ≤ (all.length : Int) := by omega
        have t1 : decide ((st.acked : Int) + j + 1 ≤ (st.acked : Int) + st.win) = true := decide_eq_true i1
        have t2 : decide ((st.acked : Int) + j + 1 ≤ (all.length : Int)) = true := decide_eq_true i2
        clear hgl
        obtain ⟨g, hA, _, hglt⟩ := HDT.out.head (by omega)
        have hbA : b ∉ ob A := h.bA
        have kd : wr.cell? ⟨g, st.acked + j, none⟩ = some (.string st.data[j]) := by
          have hdt := HDT.out.only HL' (fun x hx hm => by simp at hm; subst hm; exact h.bA hx)
          rw [hA] at hdt
          rw [hdt.cellAt (by omega), HAT.out j hjd]
        rw [hA] at k2
        have HA := Lib.hid hA
        clear hA
        have k4 : wr.cell? ⟨b, 4, none⟩ = some (.int .i64 ((max st.said (st.acked + j) : Nat) : Int)) := by rw [HB'.cell]; rfl
        obtain ⟨sj, hsj⟩ : ∃ sj, sj = max st.said (st.acked + j) := ⟨_, rfl⟩
        rw [← hsj] at k4
        have HSJ := Lib.hid hsj
        have hsjb : sj ≤ 200000 := by omega
        have k5 : wr.cell? ⟨b, 5, none⟩ = some (.int .i64 (st.rmid j).ticks) := by rw [HB'.cell]; rfl
        have hw2 : IntKind.i64.wrap ((st.acked : Int) + j + 1 - 1) = (st.acked : Int) + j := by rw [IntWalk.i64_in _ (by omega)]; omega
        have hw3 : IntKind.i64.wrap ((st.acked : Int) + j) = (st.acked : Int) + j := by rw [IntWalk.i64_in _ (by omega)]
        have hw4 : IntKind.i64.wrap ((st.acked : Int) + j + 1 + 1) = (st.acked : Int) + j + 1 + 1 := by rw [IntWalk.i64_in _ (by omega)]
        have htn : ((st.acked : Int) + (j : Int)).toNat = st.acked + j := by omega
        have j0 : (0 : Int) ≤ (st.acked : Int) + j := by omega
        have j1 : (st.acked : Int) + j < (all.length : Int) := by have := HGL.out; omega
        have hskip : Hid (st.skip = if st.wait ≤ st.ticks then 0 else st.said - st.acked) := by
          show _ = _
          unfold LEnd.skip
          rw [Nat.max_eq_left hsda]
        by_cases hS : st.said ≤ st.acked + j
        · have hsjv : sj = st.acked + j := by omega
          have i3 : (sj : Int) < (st.acked : Int) + j + 1 := by omega
          have t3 : decide ((sj : Int) < (st.acked : Int) + j + 1) = true := decide_eq_true i3
          have t4 : decide ((st.acked : Int) + j + 1 > (sj : Int)) = true := decide_eq_true i3
          clear hsj hsjv
          have HFit : Fits ((st.pre j).length + 1) 32 := Fits.of_small (by have := st.pre_len j; have := st.ack_len; omega) (by decide)
          have HOh := Lib.hid HO'
          have HBh := Lib.hid HB'
          have HLh := Lib.hid HL'
          have hbV : Hid (b ∉ ob V') := fun hm => by have := (HO'.lt b hm).1; have := h.blk.lt; omega
          have hjs : st.skip ≤ j := by rw [hskip.out]; split <;> omega
          have HF2 : Hid (fcells (st.pre (j + 1)) = fcells (st.pre j) ++ fcells [⟨false, (st.acked : Int) + j + 1, st.data[j]⟩]) := by
            show _ = _
            rw [st.pre_succ j hjs, fcells_append, st.frame_at hjd]
          have HPL : Hid ((st.pre (j + 1)).length = (st.pre j).length + 1) := by show _ = _; rw [st.pre_succ j hjs]; simp
          have HCE : Hid ((((st.rmid j).rcells all.length A ca G cg).setIfInBounds 5 (.int .i64 0)).setIfInBounds 4 (.int .i64 ((st.acked : Int) + j + 1)) = (st.rmid (j + 1)).rcells all.length A ca G cg) := by
            show _ = _
            have e1 : max st.said (st.acked + (j + 1)) = st.acked + j + 1 := by omega
            simp [LEnd.rmid, LEnd.rcells, show st.skip < j + 1 by omega, e1]
          clear HO' HB' HL' hjs
          go_wp2_with fail
          go_quiet (fail)
          go_wp2_with (at_builtin; go_loud (refine wpList_app _ (.tmp 67) (.tmp 78) rfl rfl elemF rfl rfl ((HOh.out.drewN _).alloc _) (Reads.row (wr.drewN _) 45 #[.bool false, .int .i64 ((st.acked : Int) + j + 1), .string st.data[j]]) (oneCells_f [⟨false, (st.acked : Int) + j + 1, st.data[j]⟩]) HFit (base_dr HLh.out.size _ _) ?_; intro V2 c2 w2 HO3 HL3 HB3; have hb2 := HL3.blk ((HBh.out.drewN _).alloc _) hbV.out; have m5 : w2.cell? ⟨b, 5, none⟩ = some (.int .i64 (st.rmid j).ticks) := (by rw [hb2.cell]; rfl); have m4 : w2.cell? ⟨b, 4, none⟩ = some (.int .i64 (sj : Int)) := (by rw [hb2.cell, HSJ.out]; rfl); have f5 := hb2.frozen 5; have hb3 := hb2.set_ 5 (.int .i64 0); have n4 : (w2.setCell ⟨b, 5, none⟩ (.int .i64 0)).cell? ⟨b, 4, none⟩ = some (.int .i64 (sj : Int)) := (by rw [hb3.cell, HSJ.out]; rfl); have f4 := hb3.frozen 4))
          go_roundw
          case rel =>
            refine ⟨j + 1, V2, c2, by omega, by go_num, by rw [HPL.out], ?_, ?_, ?_⟩
            · rw [HPL.out, HF2.out]
              refine HO3.only (S := [b]) (((Only.refl _ w2).setCell (.inl (by simp)) _).setCell (.inl (by simp)) _) (fun x hx hm => ?_)
              simp at hm; subst hm
              have := (HO3.lt _ hx).1
              have := h.blk.lt
              omega
            · have hx := hb3.set_ 4 (.int .i64 ((st.acked : Int) + j + 1))
              rwa [HCE.out] at hx
            · exact ((((HLh.out.drewN _).alloc _).trans_new HL3 (fun x hx => .inr ((HOh.out.lt x hx).1))).setCell (.inl (by simp)) _).setCell (.inl (by simp)) _
          case measure => simp [intOf]; omega
        · have hsjv : sj = st.said := by omega
          have t3 : decide ((sj : Int) < (st.acked : Int) + j + 1) = false := decide_eq_false (by omega)
          have t4 : decide ((st.acked : Int) + j + 1 > (sj : Int)) = false := decide_eq_false (by omega)
          have i3 : (st.acked : Int) + j + 1 ≤ (sj : Int) := by omega
          clear hsj hsjv
          by_cases hL : st.wait ≤ st.ticks
          · skip
            have HFit : Fits ((st.pre j).length + 1) 32 := Fits.of_small (by have := st.pre_len j; have := st.ack_len; omega) (by decide)
            have HOh := Lib.hid HO'
            have HBh := Lib.hid HB'
            have HLh := Lib.hid HL'
            have hbV : Hid (b ∉ ob V') := fun hm => by have := (HO'.lt b hm).1; have := h.blk.lt; omega
            have hjs : st.skip ≤ j := by rw [hskip.out, if_pos hL]; omega
            have HF2 : Hid (fcells (st.pre (j + 1)) = fcells (st.pre j) ++ fcells [⟨false, (st.acked : Int) + j + 1, st.data[j]⟩]) := by
              show _ = _
              rw [st.pre_succ j hjs, fcells_append, st.frame_at hjd]
            have HPL : Hid ((st.pre (j + 1)).length = (st.pre j).length + 1) := by show _ = _; rw [st.pre_succ j hjs]; simp
            have HCE : Hid ((((st.rmid j).rcells all.length A ca G cg).setIfInBounds 5 (.int .i64 0)) = (st.rmid (j + 1)).rcells all.length A ca G cg) := by
              show _ = _
              have e1 : max st.said (st.acked + (j + 1)) = st.said := by omega
              have e2 : max st.said (st.acked + j) = st.said := by omega
              simp [LEnd.rmid, LEnd.rcells, show st.skip < j + 1 by omega, e1, e2]
            clear HO' HB' HL' hjs
            go_wp2_with fail
            go_quiet (fail)
            go_wp2_with (at_builtin; go_loud (refine wpList_app _ (.tmp 67) (.tmp 78) rfl rfl elemF rfl rfl ((HOh.out.drewN _).alloc _) (Reads.row (wr.drewN _) 45 #[.bool false, .int .i64 ((st.acked : Int) + j + 1), .string st.data[j]]) (oneCells_f [⟨false, (st.acked : Int) + j + 1, st.data[j]⟩]) HFit (base_dr HLh.out.size _ _) ?_; intro V2 c2 w2 HO3 HL3 HB3; have hb2 := HL3.blk ((HBh.out.drewN _).alloc _) hbV.out; have m5 : w2.cell? ⟨b, 5, none⟩ = some (.int .i64 (st.rmid j).ticks) := (by rw [hb2.cell]; rfl); have m4 : w2.cell? ⟨b, 4, none⟩ = some (.int .i64 (sj : Int)) := (by rw [hb2.cell, HSJ.out]; rfl); have f5 := hb2.frozen 5; have hb3 := hb2.set_ 5 (.int .i64 0); have n4 : (w2.setCell ⟨b, 5, none⟩ (.int .i64 0)).cell? ⟨b, 4, none⟩ = some (.int .i64 (sj : Int)) := (by rw [hb3.cell, HSJ.out]; rfl); have f4 := hb3.frozen 4))
            go_roundw
            case rel =>
              refine ⟨j + 1, V2, c2, by omega, by go_num, by rw [HPL.out], ?_, ?_, ?_⟩
              · rw [HPL.out, HF2.out]
                refine HO3.only (S := [b]) ((Only.refl _ w2).setCell (.inl (by simp)) _) (fun x hx hm => ?_)
                simp at hm; subst hm
                have := (HO3.lt _ hx).1
                have := h.blk.lt
                omega
              · have hx := hb3
                rwa [HCE.out] at hx
              · exact (((HLh.out.drewN _).alloc _).trans_new HL3 (fun x hx => .inr ((HOh.out.lt x hx).1))).setCell (.inl (by simp)) _
            case measure => simp [intOf]; omega
          · have hjs : j + 1 ≤ st.skip := by rw [hskip.out, if_neg hL]; omega
            have HP0 : Hid (st.pre (j + 1) = st.pre j) := by
              show _ = _
              unfold LEnd.pre
              rw [show j + 1 - st.skip = 0 by omega, show j - st.skip = 0 by omega]
            have HCE : Hid ((st.rmid j).rcells all.length A ca G cg = (st.rmid (j + 1)).rcells all.length A ca G cg) := by
              show _ = _
              have e1 : max st.said (st.acked + (j + 1)) = st.said := by omega
              have e2 : max st.said (st.acked + j) = st.said := by omega
              simp [LEnd.rmid, LEnd.rcells, show ¬ st.skip < j + 1 by omega, show ¬ st.skip < j by omega, e1, e2]
            have HOh := Lib.hid HO'
            have HBh := Lib.hid HB'
            have HLh := Lib.hid HL'
            clear HO' HB' HL' hjs
            go_wp2_with fail
            go_quiet (fail)
            go_wp2_with fail
            go_roundw
            case rel =>
              refine ⟨j + 1, V', c', by omega, by go_num, by rw [HP0.out], ?_, ?_, HLh.out.drewN _⟩
              · rw [HP0.out]; exact HOh.out.drewN _
              · rw [← HCE.out]; exact HBh.out.drewN _
            case measure => simp [intOf]; omega
      · have hje : j = st.wide := by omega
        have HFIN : Hid (∀ k, ROutPost w B b A ca G cg gone st (.returned (.slice V' (st.pre j).length c')) (wr.drewN k)) := fun k => by
          have hpa : st.pre st.wide = st.outFrames := rfl
          subst hje
          have hl := HALL.out
          refine ⟨V', c', by rw [hpa], by rw [← hpa]; exact HO'.drewN _, ⟨?_, h.base, ?_, ?_, h.apart, h.past, by show st.acked ≤ max st.said (st.acked + st.wide); omega⟩, HL'.drewN _⟩
          · have hx := HB'.drewN k
            rw [hl] at hx
            exact hx
          · exact (h.data.only (HL'.drewN k) (fun x hx hm => by simp at hm; subst hm; exact h.bA hx))
          · exact (h.got.only (HL'.drewN k) (fun x hx hm => by simp at hm; subst hm; exact h.bG hx))
        clear HO' HB' HL'
        by_cases hw : st.win ≤ j
        · have t1 : decide ((st.acked : Int) + j + 1 ≤ (st.acked : Int) + st.win) = false := decide_eq_false (by omega)
          have i1 : ¬ (st.acked : Int) + j + 1 ≤ (st.acked : Int) + st.win := by omega
          clear hje hgl
          go_wp2_with fail
          go_quiet (fail)
          go_wp2_with fail
          go_ret
          exact HFIN.out _
        · have hjd : st.data.length ≤ j := by unfold LEnd.wide at hje; omega
          have i1 : (st.acked : Int) + j + 1 ≤ (st.acked : Int) + st.win := by omega
          have i2 : ¬ (st.acked : Int) + j + 1 ≤ (all.length : Int) := by omega
          have t1 : decide ((st.acked : Int) + j + 1 ≤ (st.acked : Int) + st.win) = true := decide_eq_true i1
          have t2 : decide ((st.acked : Int) + j + 1 ≤ (all.length : Int)) = false := decide_eq_false i2
          clear hje hgl
          go_wp2_with fail
          go_quiet (fail)
          go_wp2_with fail
          go_ret
          exact HFIN.out _
end Go.Proofs.YtgninfpdomcobaaDoor

/- What an end of a line says: (*link.End).Out, walked. Conditions: what holds of each end (LEnd.Ok). -/
import Derived.Test.YtlcjgldlblpboaaLinkSpec
namespace Go.Proofs.Ytlcjgldlblpboaa
open Go.RowKit
set_option linter.unusedVariables false

def OutPost (w : World) (B b : Nat) (A : Option Addr) (ca : Nat) (G : Option Addr) (cg : Nat) (st : LEnd) (e : Ending) (w' : World) : Prop :=
  ∃ V c, e = .returned (.slice V st.outFrames.length c) ∧ Own w' w.heap.size 33 3 V st.outFrames.length c (fcells st.outFrames) ∧ EndAt w' B b A ca G cg st.out ∧ Only [b] w w'

/-- The frames behind j of them. -/
def LEnd.pre (st : LEnd) (j : Nat) : List LFrame := st.ackFrames ++ (List.range' st.skip (j - st.skip)).map st.frame

def OutMid (w : World) (B b : Nat) (A : Option Addr) (ca : Nat) (G : Option Addr) (cg : Nat) (st : LEnd) (v : Value) (wr : World) : Prop :=
  ∃ V c, v = .slice V st.ackFrames.length c ∧ Own wr w.heap.size 33 3 V st.ackFrames.length c (fcells st.ackFrames) ∧ Blk wr b 58 (({ st with owes := false } : LEnd).cells A ca G cg) ∧ Only [b] w wr

def LEnd.mid (st : LEnd) (j : Nat) : LEnd := { st with owes := false, ticks := if st.skip < j then 0 else st.ticks }
def OutLoop (w : World) (b : Nat) (A : Option Addr) (ca : Nat) (G : Option Addr) (cg : Nat) (st : LEnd) (M : Nat) (v i : Value) (wr : World) : Prop :=
  ∃ (j : Nat) (V : Option Addr) (c : Nat), st.skip ≤ j ∧ j ≤ max M st.skip ∧ i = .int .i64 ((st.acked : Int) + j + 1) ∧ v = .slice V (st.pre j).length c ∧ Own wr w.heap.size 33 3 V (st.pre j).length c (fcells (st.pre j)) ∧ Blk wr b 58 ((st.mid j).cells A ca G cg) ∧ Only [b] w wr

theorem LEnd.pre_len (st : LEnd) (j : Nat) : (st.pre j).length = st.ackFrames.length + (j - st.skip) := by simp [LEnd.pre]
theorem LEnd.ack_len (st : LEnd) : st.ackFrames.length ≤ 1 := by unfold LEnd.ackFrames; split <;> simp
theorem LEnd.pre_succ (st : LEnd) (j : Nat) (h : st.skip ≤ j) : st.pre (j + 1) = st.pre j ++ [st.frame j] := by
  unfold LEnd.pre
  rw [show j + 1 - st.skip = (j - st.skip) + 1 by omega, List.range'_concat, List.map_append, List.append_assoc]
  simp [show st.skip + (j - st.skip) = j by omega]
theorem LEnd.frame_at (st : LEnd) {j : Nat} (h : j < st.data.length) : st.frame j = ⟨false, st.acked + j + 1, st.data[j]⟩ := by
  simp [LEnd.frame, h]
theorem LEnd.mid_set (st : LEnd) (j : Nat) (h : st.skip ≤ j) (A G : Option Addr) (ca cg : Nat) : ((st.mid j).cells A ca G cg).setIfInBounds 5 (.int .i64 0) = (st.mid (j + 1)).cells A ca G cg := by
  simp [LEnd.mid, LEnd.cells, show st.skip < j + 1 by omega]
theorem LEnd.out_set (st : LEnd) (A G : Option Addr) (ca cg : Nat) :
    ((st.mid (max st.wide st.skip)).cells A ca G cg).setIfInBounds 4 (.int .i64 ((max st.said (st.acked + st.wide) : Nat) : Int)) = st.out.cells A ca G cg := by
  have e : (st.skip < max st.wide st.skip) = (st.skip < st.wide) := propext ⟨fun h => by omega, fun h => by omega⟩
  simp only [LEnd.mid, LEnd.out, LEnd.cells, e]
  rfl
theorem LEnd.pre_all (st : LEnd) : st.pre (max st.wide st.skip) = st.outFrames := by
  unfold LEnd.pre LEnd.outFrames
  rw [show max st.wide st.skip - st.skip = st.wide - st.skip by omega]

set_option maxRecDepth 100000 in
theorem out_any (w : World) (B b : Nat) (A : Option Addr) (ca : Nat) (G : Option Addr) (cg : Nat) (st : LEnd) (h : EndAt w B b A ca G cg st) (ok : st.Ok) :
    Calls Try.prog 7 #[.pointer (some ⟨b, 0, none⟩)] w (OutPost w B b A ca G cg st) := by
  have c6 : w.cell? ⟨b, 6, none⟩ = some (.slice G st.got.length cg) := by rw [h.blk.cell]; rfl
  have c7 : w.cell? ⟨b, 7, none⟩ = some (.bool st.owes) := by rw [h.blk.cell]; rfl
  go_enter Try.func7, Try.ntmps7
  go_upto_if 9 with (fail)
  go_cut [2] (fun v wr => OutMid w B b A ca G cg st v wr)
  case first =>
    have HB0 := h.blk
    have hok := ok.got
    have HO := (Own.nil w w.heap.size 33 3).alloc (.cells #[.bool true, .int .i64 (st.got.length : Int), .string ⟨#[]⟩] 33)
    cases ho : st.owes with
    | false =>
      rw [ho] at c7
      go_wp2_with fail
      go_meet
      case rel =>
        refine ⟨none, 0, ?_, ?_, ?_, Only.refl _ _⟩
        · simp [LEnd.ackFrames, ho]
        · simpa [LEnd.ackFrames, ho, fcells] using Own.nil w w.heap.size 33 3
        · simpa [LEnd.cells, ho] using HB0
    | true =>
      rw [ho] at c7
      have HF : Fits (0 + 1) 32 := Fits.of_small (by decide) (by decide)
      go_wp2_with (at_builtin; refine wpList_app _ (.tmp 10) (.tmp 17) rfl rfl elemF rfl rfl HO (Reads.row w 33 #[.bool true, .int .i64 (st.got.length : Int), .string ⟨#[]⟩]) (oneCells_f [⟨true, st.got.length, ⟨#[]⟩⟩]) HF (by simp) ?_; intro V c w1 HO' HL HB; have hb2 := HL.blk (HB0.alloc _) (by simp [ob]); have hc7 : w1.cell? ⟨b, 7, none⟩ = some (.bool true) := by { rw [hb2.cell]; simp [LEnd.cells, ho] }; have hf7 : w1.frozen? ⟨b, 7, none⟩ = false := hb2.frozen 7)
      go_meet
      case rel =>
        have hL : Only [b] w (w1.setCell ⟨b, 7, none⟩ (.bool false)) := (((Only.refl _ w).alloc _).trans_new HL (fun i hi => by simp [ob] at hi)).setCell (.inl (by simp)) _
        refine ⟨V, c, by simp [LEnd.ackFrames, ho], ?_, ?_, hL⟩
        · have h2 := HO'.only (S := [b]) (w' := w1.setCell ⟨b, 7, none⟩ (.bool false)) ((Only.refl _ _).setCell (.inl (by simp)) _) (fun g hg hm => by
            simp at hm; subst hm
            have := (HO'.lt _ hg).1
            have := h.blk.lt
            omega)
          simpa [LEnd.ackFrames, ho, fcells, LFrame.cells] using h2
        · have h3 := hb2.set_ 7 (.bool false)
          simpa [LEnd.cells, ho] using h3
  case rest =>
    obtain ⟨V, c, rfl, HO, HB, HL⟩ := hcut
    have hd := ok.data
    have hw2 := ok.win2
    have hwt := ok.wait2
    have hak := ok.acked
    have hsd := ok.said
    have htk := ok.ticks
    have k0 : wc.cell? ⟨b, 0, none⟩ = some (.int .i64 st.win) := by rw [HB.cell]; rfl
    have k1 : wc.cell? ⟨b, 1, none⟩ = some (.int .i64 st.wait) := by rw [HB.cell]; rfl
    have k2 : wc.cell? ⟨b, 2, none⟩ = some (.slice A st.data.length ca) := by rw [HB.cell]; rfl
    have k3 : wc.cell? ⟨b, 3, none⟩ = some (.int .i64 st.acked) := by rw [HB.cell]; rfl
    have k4 : wc.cell? ⟨b, 4, none⟩ = some (.int .i64 st.said) := by rw [HB.cell]; rfl
    have k5 : wc.cell? ⟨b, 5, none⟩ = some (.int .i64 st.ticks) := by rw [HB.cell]; rfl
    obtain ⟨M, hM⟩ : ∃ M : Nat, M = st.wide := ⟨_, rfl⟩
    obtain ⟨j0, hj0⟩ : ∃ j0 : Nat, max st.said st.acked = st.acked + j0 := ⟨max st.said st.acked - st.acked, by omega⟩
    have e1 : ∀ W, (Builtin.min_ #[3, 3] 3 #[.int .i64 (st.win : Int), .int .i64 (st.data.length : Int)]).run Try.prog W = .ok (.int .i64 (M : Int)) W := fun W => by rw [run_min_int2, hM]; congr 2; unfold LEnd.wide; split <;> omega
    have e2 : ∀ W, (Builtin.max_ #[3, 3] 3 #[.int .i64 (st.said : Int), .int .i64 (st.acked : Int)]).run Try.prog W = .ok (.int .i64 ((st.acked : Int) + j0)) W := fun W => by rw [run_max_int2]; congr 2; split <;> omega
    have e3 : ∀ W, (Builtin.max_ #[3, 3] 3 #[.int .i64 (st.said : Int), .int .i64 ((st.acked : Int) + M)]).run Try.prog W = .ok (.int .i64 ((max st.said (st.acked + M) : Nat) : Int)) W := fun W => by rw [run_max_int2]; congr 2; split <;> omega
    have hM1 : M ≤ 16 := by unfold LEnd.wide at hM; omega
    have hMd : M ≤ st.data.length := by unfold LEnd.wide at hM; omega
    have hF1 : st.acked + j0 ≤ 1000000 := by omega
    have hsk : st.skip = if st.wait ≤ st.ticks then 0 else j0 := by unfold LEnd.skip; split <;> omega
    have HM := Lib.hid hM
    have HJ := Lib.hid hj0
    have HSK := Lib.hid hsk
    clear hM hj0 hsk c6 c7
    have hs1 : st.skip ≤ 100 := by
      have h1 := HSK.out
      have h2 := HJ.out
      rw [h1]
      split <;> omega
    go_upto_region 4 with (fail)
    go_quiet (fail)
    go_wp2_with fail
    go_quiet (fail)
    go_wp2_with fail
    go_quiet (fail)
    go_upto_if 55 with (fail)
    go_cut [4] (fun v wr => v = .int .i64 ((st.acked : Int) + st.skip + 1) ∧ ∃ k, wr = wc.drewN k)
    case first =>
      by_cases ht : st.wait ≤ st.ticks
      · go_wp2_with fail
        go_meet
        case rel =>
          have hz : st.skip = 0 := by have := HSK.out; rw [if_pos ht] at this; exact this
          exact ⟨by rw [hz]; simp, _, by first | rfl | (rw [World.drewN_drewN, World.drewN_drewN])⟩
      · go_wp2_with fail
        go_meet
        case rel =>
          have hz : st.skip = j0 := by have := HSK.out; rw [if_neg ht] at this; exact this
          exact ⟨by rw [hz], _, by first | rfl | (rw [World.drewN_drewN, World.drewN_drewN])⟩
    case rest => 
      obtain ⟨rfl, kq, rfl⟩ := hcut
      clear k0 k1 k4 k5 e1 e2
      go_wp2_with fail
      go_loopw [2, 5] (fun v i wr => OutLoop w b A ca G cg st M v i wr) (fun _ i _ => (st.acked + M + 2 - (intOf i).toNat))
      case atStart =>
        refine ⟨st.skip, V, c, Nat.le_refl _, Nat.le_max_right _ _, rfl, ?_, ?_, ?_, HL.drewN kq⟩
        · simp [LEnd.pre]
        · simpa [LEnd.pre] using HO.drewN kq
        · simpa [LEnd.mid] using HB.drewN kq
      case round =>
        obtain ⟨j, V', c', hs, hj, rfl, rfl, HO', HB', HL'⟩ := hrel
        have k2' : wr.cell? ⟨b, 2, none⟩ = some (.slice A st.data.length ca) := by rw [HB'.cell]; rfl
        have k3' : wr.cell? ⟨b, 3, none⟩ = some (.int .i64 st.acked) := by rw [HB'.cell]; rfl
        have k4' : wr.cell? ⟨b, 4, none⟩ = some (.int .i64 st.said) := by rw [HB'.cell]; rfl
        have f4' := HB'.frozen 4
        have hHO'lt := HO'.lt
        by_cases hlt : j < M
        · obtain ⟨g, hA, _, hglt⟩ := h.data.head (by omega)
          have kd : wr.cell? ⟨g, j, none⟩ = some (.string (st.data[j]'(by omega))) := by
            have hdt := h.data.only HL' (fun x hx hm => by simp at hm; subst hm; exact h.bA hx)
            rw [hA] at hdt
            rw [hdt.cellAt (by omega), strs_get]
          rw [hA] at k2'
          have HA := Lib.hid hA
          clear hA
          have hw1 : IntKind.i64.wrap ((st.acked : Int) + j + 1 - st.acked) = (j : Int) + 1 := by rw [IntWalk.i64_in _ (by omega)]; omega
          have hw2 : IntKind.i64.wrap (j : Int) = (j : Int) := IntWalk.i64_in _ (by omega)
          have hjn : j < st.data.length := by omega
          have k5' : wr.cell? ⟨b, 5, none⟩ = some (.int .i64 (st.mid j).ticks) := by rw [HB'.cell]; rfl
          have HO2 := HO'.drew.alloc (.cells #[.bool false, .int .i64 ((st.acked : Int) + j + 1), .string st.data[j]] 33)
          have HFit : Fits ((st.pre j).length + 1) 32 := Fits.of_small (by have := st.pre_len j; have := st.ack_len; omega) (by decide)
          have hgw : g < wr.heap.size := Nat.lt_of_lt_of_le hglt HL'.size
          have hgV : g ∉ ob V' := fun hm => by have := (hHO'lt g hm).1; omega
          have hbV : b ∉ ob V' := fun hm => by have := (hHO'lt b hm).1; have := h.blk.lt; omega
          have HBa := HB'.drew.alloc (.cells #[.bool false, .int .i64 ((st.acked : Int) + j + 1), .string st.data[j]] 33)
          have hsz : w.heap.size ≤ (wr.drew.alloc (.cells #[.bool false, .int .i64 ((st.acked : Int) + j + 1), .string st.data[j]] 33)).heap.size := by
            have := HL'.size
            simp
            omega
          go_wp2_with fail
          go_region_held3 (fun w' => w'.cell? ⟨b, 2, none⟩ = some (.slice (some ⟨g, 0, none⟩) st.data.length ca) ∧ w'.cell? ⟨b, 3, none⟩ = some (.int .i64 st.acked) ∧ w'.cell? ⟨g, j, none⟩ = some (.string st.data[j]))
            (first
              | go_keep
              | exact ⟨n2, n3, ng⟩)
            ((refine step_app _ (.tmp 67) (.tmp 83) rfl rfl elemF rfl rfl HO2 (Reads.row wr.drew 33 #[.bool false, .int .i64 ((st.acked : Int) + j + 1), .string st.data[j]]) (oneCells_f [⟨false, (st.acked : Int) + j + 1, st.data[j]⟩]) HFit hsz ?_; intro V2 c2 w2 HO3 HL3 HB3
              have hb2 := HL3.blk HBa hbV
              have n2 : w2.cell? ⟨b, 2, none⟩ = some (.slice (some ⟨g, 0, none⟩) st.data.length ca) := by { rw [hb2.cell, ← HA.out]; rfl }
              have n3 : w2.cell? ⟨b, 3, none⟩ = some (.int .i64 st.acked) := by { rw [hb2.cell]; rfl }
              have ng : w2.cell? ⟨g, j, none⟩ = some (.string st.data[j]) := by { rw [HL3.cell (by simp; omega) hgV]; exact (World.cell?_alloc_lt wr.drew _ ⟨g, j, none⟩ hgw).trans kd }
              have k52 : w2.cell? ⟨b, 5, none⟩ = some (.int .i64 (st.mid j).ticks) := by { rw [hb2.cell]; rfl }
              have f52 := hb2.frozen 5))
          go_wp2_with fail
          go_roundw
          case rel =>
            have hLL : Only [b] w (w2.setCell ⟨b, 5, none⟩ (.int .i64 0)) := (((HL'.drew.alloc _).trans_new HL3 (fun x hx => .inr (hHO'lt x hx).1)).setCell (.inl (by simp)) _)
            refine ⟨j + 1, V2, c2, by omega, by omega, by go_num, ?_, ?_, ?_, hLL⟩
            · rw [st.pre_succ j hs]; simp
            · have hx := HO3.only (S := [b]) (w' := w2.setCell ⟨b, 5, none⟩ (.int .i64 0)) ((Only.refl _ _).setCell (.inl (by simp)) _) (fun x hx hm => by
                simp at hm; subst hm
                have := (HO3.lt _ hx).1
                have := h.blk.lt
                omega)
              rw [st.pre_succ j hs, fcells_append, st.frame_at hjn]
              simpa [fcells, LFrame.cells] using hx
            · have hx := hb2.set_ 5 (.int .i64 0)
              rwa [st.mid_set j hs] at hx
          case measure => simp [intOf]; omega
        · have f4' := HB'.frozen 4
          go_wp2
          go_ret
          have hje : j = max M st.skip := by omega
          subst hje
          have hME := HM.out
          subst hME
          have hLL : Only [b] w (wr.setCell ⟨b, 4, none⟩ (.int .i64 ((max st.said (st.acked + st.wide) : Nat) : Int))) := HL'.setCell (.inl (by simp)) _
          rw [st.pre_all] at HO' 
          refine ⟨V', c', by simp [st.pre_all], HO'.only (S := [b]) ((Only.refl _ _).setCell (.inl (by simp)) _) (fun x hx hm => ?_), h.turn hLL (fun x hx hm => ?_) rfl rfl ?_, hLL⟩
          · simp at hm; subst hm
            have := (HO'.lt _ hx).1
            have := h.blk.lt
            omega
          · simp at hm; subst hm
            rcases List.mem_append.1 hx with hx | hx
            · exact h.bA hx
            · exact h.bG hx
          · have hx := HB'.set_ 4 (.int .i64 ((max st.said (st.acked + st.wide) : Nat) : Int))
            rwa [st.out_set] at hx
end Go.Proofs.Ytlcjgldlblpboaa

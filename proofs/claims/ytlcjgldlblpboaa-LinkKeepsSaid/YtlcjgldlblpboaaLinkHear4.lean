/- (*link.End).Hear, walked: data that comes. Conditions: what holds of each end (LEnd.Ok). -/
import Derived.Test.YtlcjgldlblpboaaLinkHear3
namespace Go.Proofs.Ytlcjgldlblpboaa
open Go.RowKit
set_option linter.unusedVariables false

section
variable (w : World) (B b : Nat) (A G : Option Addr) (ca cg : Nat) (st : LEnd)

set_option maxRecDepth 100000 in
set_option maxHeartbeats 1000000 in
theorem hear_data_other (s : Int) (d : ByteArray) (h : EndAt w B b A ca G cg st) (ok : st.Ok) (h0 : 1 ≤ s) (hd : d.size ≤ 200) (hs : s ≠ st.got.length + 1) :
    Calls Try.prog 9 #[.pointer (some ⟨b, 0, none⟩), .agg #[.bool false, .int .i64 s, .string d]] w
      (SendPost w B b A G .nilIface { st with owes := true }) := by
  have hE := h.below ((Below.refl _ _).alloc (Nat.le_refl _) (.cells #[.bool false, .int .i64 s, .string d] 33))
  have hc6 : (w.alloc (.cells #[.bool false, .int .i64 s, .string d] 33)).cell? ⟨b, 6, none⟩ = some (.slice G st.got.length cg) := by rw [hE.blk.cell]; rfl
  have hc7 : (w.alloc (.cells #[.bool false, .int .i64 s, .string d] 33)).cell? ⟨b, 7, none⟩ = some (.bool st.owes) := by rw [hE.blk.cell]; rfl
  have hf7 := hE.blk.frozen 7
  have hgl := ok.got
  have hb : (s == (st.got.length : Int) + 1) = false := by simpa using hs
  have H := Lib.hid h
  have HE := Lib.hid hE
  clear h hE ok
  go_enter Try.func9, Try.ntmps9
  go_wp2_with fail
  go_quiet (fail)
  go_wp2_with fail
  go_ret
  refine ⟨rfl, A, ca, G, cg, ?_, ?_, fun _ hg => .inl hg⟩
  · refine HE.out.turn (S := [b]) (((Only.refl _ _).drewN _).setCell (.inl (by simp)) _) (fun x hx hm => ?_) rfl rfl ?_
    · simp at hm; subst hm
      rcases List.mem_append.1 hx with hx | hx
      · exact H.out.bA hx
      · exact H.out.bG hx
    · have hx := (HE.out.blk.drewN nq).set_ 7 (.bool true)
      simpa [LEnd.cells] using hx
  · exact (((Only.refl _ _).alloc _).drewN _).setCell (.inl (by simp [endBlocks])) _

theorem hear_got_close {w1 w0 : World} {c m : Nat} {V : Option Addr} {d : ByteArray} (h : EndAt w B b A ca G cg st)
    (hw0 : w0 = (((w.alloc (.cells #[.bool false, .int .i64 ((st.got.length : Int) + 1), .string d] 33)).drewN m).alloc (.cells #[.string d] 9)))
    (hb2 : Blk w1 b 58 (st.cells A ca G cg))
    (hO : Own w1 B 9 1 V (st.got.length + 1) c (strs st.got ++ strs [d])) (hL : Only (ob G) w0 w1) (hg : ∀ g ∈ ob V, g ∈ ob G ∨ g = w0.heap.size) :
    EndTo w B b A G { st with got := st.got ++ [d], owes := true } ((w1.setCell ⟨b, 6, none⟩ (.slice V (st.got.length + 1) c)).setCell ⟨b, 7, none⟩ (.bool true)) := by
  subst hw0
  have hbs := h.blk.lt
  have hg' : ∀ g ∈ ob V, g ∈ ob G ∨ w.heap.size ≤ g := fun g hx => (hg g hx).imp id (fun e => by rw [e]; simp; omega)
  have hL0 : Only (b :: ob G) w w1 := ((((Only.refl _ w).alloc _).drewN _).alloc _).trans_new hL (fun i hi => .inl (List.mem_cons_of_mem _ hi))
  have hL1 : Only (b :: ob G) w ((w1.setCell ⟨b, 6, none⟩ (.slice V (st.got.length + 1) c)).setCell ⟨b, 7, none⟩ (.bool true)) :=
    (hL0.setCell (.inl (by simp)) _).setCell (.inl (by simp)) _
  refine EndTo.gotten (G' := V) (c' := c) (st := st) h (hL1.mono (fun i hi => .inl (by simp [endBlocks] at hi ⊢; rcases hi with hi | hi <;> simp [hi]))) ?_ ?_ hg' rfl ?_
  · have hx := (hb2.set_ 6 (.slice V (st.got.length + 1) c)).set_ 7 (.bool true)
    simpa [LEnd.cells] using hx
  · have hx := hO.only (S := [b]) (w' := (w1.setCell ⟨b, 6, none⟩ (.slice V (st.got.length + 1) c)).setCell ⟨b, 7, none⟩ (.bool true))
      (((Only.refl _ _).setCell (.inl (by simp)) _).setCell (.inl (by simp)) _) (fun x hx hm => by
        simp at hm; subst hm
        rcases hg' _ hx with h1 | h1
        · exact h.bG h1
        · omega)
    simpa [strs] using hx
  · intro x hx
    refine hL1.block x (h.data.lt x hx).2 (fun hm => ?_)
    simp at hm
    rcases hm with rfl | hm
    · exact h.bA hx
    · exact h.apart x hx hm

set_option maxRecDepth 100000 in
set_option maxHeartbeats 1000000 in
theorem hear_data_next (d : ByteArray) (h : EndAt w B b A ca G cg st) (ok : st.Ok) (hd : d.size ≤ 200) :
    Calls Try.prog 9 #[.pointer (some ⟨b, 0, none⟩), .agg #[.bool false, .int .i64 ((st.got.length : Int) + 1), .string d]] w
      (SendPost w B b A G .nilIface { st with got := st.got ++ [d], owes := true }) := by
  have hE := h.below ((Below.refl _ _).alloc (Nat.le_refl _) (.cells #[.bool false, .int .i64 ((st.got.length : Int) + 1), .string d] 33))
  have hc6 : (w.alloc (.cells #[.bool false, .int .i64 ((st.got.length : Int) + 1), .string d] 33)).cell? ⟨b, 6, none⟩ = some (.slice G st.got.length cg) := by rw [hE.blk.cell]; rfl
  have hgl := ok.got
  have hbG := h.bG
  have hbs := h.blk.lt
  have hBs : B ≤ w.heap.size + 1 := by have := h.base; omega
  have hGlt : ∀ g ∈ ob G, g < w.heap.size := fun g hg => (h.got.lt g hg).2
  have hbx : w.heap.size ∉ ob G := fun hm => by have := hGlt _ hm; omega
  have HB1 := (hE.blk.drewN 0).alloc (.cells #[.string d] 9)
  have hw1 : IntKind.i64.wrap ((st.got.length : Int) + 1) = (st.got.length : Int) + 1 := IntWalk.i64_in _ (by omega)
  have HO := fun n => (hE.got.drewN n).alloc (.cells #[.string d] 9)
  have HF : Fits (st.got.length + 1) 16 := Fits.of_small (by omega) (by decide)
  have HR1 : ∀ n, Reads (((w.alloc (.cells #[.bool false, .int .i64 ((st.got.length : Int) + 1), .string d] 33)).drewN n).alloc (.cells #[.string d] 9)) (w.heap.size + 1 + 1) 1 (some ⟨w.heap.size + 1, 0, none⟩) 1 (strs [d]) := fun n => by
    have := Reads.row ((w.alloc (.cells #[.bool false, .int .i64 ((st.got.length : Int) + 1), .string d] 33)).drewN n) 9 #[.string d]
    simpa [strs] using this
  have HRR := Lib.hid HR1
  have H := Lib.hid h
  have HE := Lib.hid hE
  have HOO := Lib.hid HO
  have HGL := Lib.hid hGlt
  clear h hE ok HO HB1 hGlt HR1
  go_enter Try.func9, Try.ntmps9
  go_wp2_with fail
  go_quiet (fail)
  go_wp2_with fail
  go_region_law ((
      refine step_app _ (.tmp 80) (.tmp 83) rfl rfl elemS rfl rfl (HOO.out _) (HRR.out _) (oneCells_strs [d]) HF (by simp; omega) ?_
      intro V c w1 hO hL hg
      have hb2 := hL.blk ((HE.out.blk.drewN _).alloc _) hbG
      have n6 : w1.cell? ⟨b, 6, none⟩ = some (.slice G st.got.length cg) := by { rw [hb2.cell]; rfl }
      have n7 : w1.cell? ⟨b, 7, none⟩ = some (.bool st.owes) := by { rw [hb2.cell]; rfl }
      have f6 := hb2.frozen 6
      have f7 := hb2.frozen 7))
  all_goals
    go_wp2_with fail
    go_ret
    exact ⟨rfl, hear_got_close w B b A G ca cg st (m := nq + 1) H.out rfl hb2 hO hL hg⟩
end
end Go.Proofs.Ytlcjgldlblpboaa

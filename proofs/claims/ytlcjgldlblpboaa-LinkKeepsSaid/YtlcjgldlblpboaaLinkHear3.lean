/- (*link.End).Hear, walked: what is acknowledged goes, what comes is kept. Conditions: what holds of each end (LEnd.Ok). -/
import Derived.Deep.RegionLaw
import Derived.Test.YtlcjgldlblpboaaLinkHear2
namespace Go.Proofs.Ytlcjgldlblpboaa
open Go.RowKit
set_option linter.unusedVariables false

section
variable (w : World) (B b : Nat) (A G : Option Addr) (ca cg : Nat) (st : LEnd)

theorem hear_new_close {w1 : World} {g k n' c m : Nat} {V : Option Addr} (h : EndAt w B b (some ⟨g, 0, none⟩) ca G cg st) (hn : n' = (st.data.drop k).length)
    (hb' : Below (w.alloc (.cells #[.bool true, .int .i64 ((st.acked : Int) + k), .string ⟨#[]⟩] 33)).heap.size (w.alloc (.cells #[.bool true, .int .i64 ((st.acked : Int) + k), .string ⟨#[]⟩] 33)) w1)
    (hO : Own w1 ((w.alloc (.cells #[.bool true, .int .i64 ((st.acked : Int) + k), .string ⟨#[]⟩] 33)).drewN m).heap.size 9 1 V n' c (strs (st.data.drop k))) :
    EndTo w B b (some ⟨g, 0, none⟩) G { st with data := st.data.drop k, acked := st.acked + k } ((w1.setCell ⟨b, 2, none⟩ (.slice V n' c)).setCell ⟨b, 3, none⟩ (.int .i64 ((st.acked : Int) + k))) := by
  subst hn
  have hE := h.below ((Below.refl _ _).alloc (Nat.le_refl _) (.cells #[.bool true, .int .i64 ((st.acked : Int) + k), .string ⟨#[]⟩] 33))
  have hE1 := hE.below hb'
  have hbs := h.blk.lt
  have hL : Only [b] w ((w1.setCell ⟨b, 2, none⟩ (.slice V (st.data.drop k).length c)).setCell ⟨b, 3, none⟩ (.int .i64 ((st.acked : Int) + k))) :=
    ((((Only.refl [b] w).alloc _).trans (Only.of_below hb')).setCell (.inl (by simp)) _).setCell (.inl (by simp)) _
  refine EndTo.data (A' := V) (c' := c) (st := st) (u := .nilIface) h (hL.mono (fun i hi => .inl (by simp [endBlocks] at hi ⊢; simp [hi]))) ?_ ?_ ?_ rfl ?_
  · have hx := (hE1.blk.set_ 2 (.slice V (st.data.drop k).length c)).set_ 3 (.int .i64 ((st.acked : Int) + k))
    simpa [LEnd.cells] using hx
  · have hx := (hO.mono (B' := B) (by have := h.base; simp; omega)).only (S := [b]) (w' := (w1.setCell ⟨b, 2, none⟩ (.slice V (st.data.drop k).length c)).setCell ⟨b, 3, none⟩ (.int .i64 ((st.acked : Int) + k)))
      (((Only.refl _ _).setCell (.inl (by simp)) _).setCell (.inl (by simp)) _) (fun x hx hm => by
        simp at hm; subst hm
        have := (hO.lt _ hx).1
        simp at this
        omega)
    simpa using hx
  · intro x hx
    have := (hO.lt _ hx).1
    simp at this
    exact .inr (by omega)
  · intro x hx
    refine hL.block x (h.got.lt x hx).2 (fun hm => ?_)
    simp at hm; subst hm
    exact h.bG hx

set_option maxRecDepth 100000 in
set_option maxHeartbeats 4000000 in
theorem hear_ack_new (k : Nat) (h : EndAt w B b A ca G cg st) (ok : st.Ok) (hk : 0 < k) (hs : st.acked + k ≤ st.said) :
    Calls Try.prog 9 #[.pointer (some ⟨b, 0, none⟩), .agg #[.bool true, .int .i64 ((st.acked : Int) + k), .string ⟨#[]⟩]] w
      (SendPost w B b A G .nilIface { st with data := st.data.drop k, acked := st.acked + k }) := by
  have hE := h.below ((Below.refl _ _).alloc (Nat.le_refl _) (.cells #[.bool true, .int .i64 ((st.acked : Int) + k), .string ⟨#[]⟩] 33))
  have h5 := ok.said
  have h6 := ok.acked
  have h7 := ok.data
  have hkn : k ≤ st.data.length := by omega
  obtain ⟨g, rfl, hg1, hg2⟩ := h.data.head (by omega)
  have hcap := h.data.cap_le
  have hcm := h.data.cap_max
  unfold maxLen at hcm
  have hbs := h.blk.lt
  have hc4 : (w.alloc (.cells #[.bool true, .int .i64 ((st.acked : Int) + k), .string ⟨#[]⟩] 33)).cell? ⟨b, 4, none⟩ = some (.int .i64 st.said) := by rw [hE.blk.cell]; rfl
  have hc3 : (w.alloc (.cells #[.bool true, .int .i64 ((st.acked : Int) + k), .string ⟨#[]⟩] 33)).cell? ⟨b, 3, none⟩ = some (.int .i64 st.acked) := by rw [hE.blk.cell]; rfl
  have hc2 : (w.alloc (.cells #[.bool true, .int .i64 ((st.acked : Int) + k), .string ⟨#[]⟩] 33)).cell? ⟨b, 2, none⟩ = some (.slice (some ⟨g, 0, none⟩) st.data.length ca) := by rw [hE.blk.cell]; rfl
  have hd' : decide ((st.acked : Int) + k < 0) = false := by simp; omega
  have hw1 : IntKind.i64.wrap ((st.acked : Int) + k - st.acked) = (k : Int) := by rw [IntWalk.i64_in _ (by omega)]; omega
  have hRead := ((hE.data.reads).cut hkn hcap)
  have hlen : st.data.length - k = (st.data.drop k).length := by simp
  have HN := Lib.hid hlen
  clear hlen
  by_cases hck : ca = k
  · have hdn : st.data.drop k = [] := List.drop_eq_nil_of_le (by omega)
    have HC := Lib.hid (fun n cc => cloneS ((w.alloc (.cells #[.bool true, .int .i64 ((st.acked : Int) + k), .string ⟨#[]⟩] 33)).drewN n) (w.heap.size + 1) (some ⟨g, 0, none⟩) 0 cc (strs []) (Reads.none_) (oneCells_strs _) (Fits.of_small (by decide) (by decide)) (by simp))
    have HD := Lib.hid hdn
    have hdl : st.data.length = k := by omega
    have HDL := Lib.hid hdl
    clear hdn hdl
    replace hck := Eq.symm hck
    subst hck
    go_enter Try.func9, Try.ntmps9
    go_wp2_with fail
    go_quiet (fail)
    go_wp2_with fail
    go_quiet (fail)
    go_wp2_with fail
    go_region_law ((
        go_simp
        go_at_call 20
        go_must (refine (HC.out _ _).mono ?_)
        rintro e w1 ⟨V, c, rfl, hO, hb⟩
        have hb' := below_of_drewN hb
        have hE1 := hE.below hb'
        have n2 : w1.cell? ⟨b, 2, none⟩ = some (.slice (some ⟨g, 0, none⟩) st.data.length k) := by { rw [hE1.blk.cell]; rfl }
        have n3 : w1.cell? ⟨b, 3, none⟩ = some (.int .i64 st.acked) := by { rw [hE1.blk.cell]; rfl }
        have n4 : w1.cell? ⟨w.heap.size, 1, none⟩ = some (.int .i64 ((st.acked : Int) + k)) := by { rw [((Blk.new w _ _).below hb' (by simp)).cell]; rfl }
        have f2 := hE1.blk.frozen 2
        have f3 := hE1.blk.frozen 3))
    all_goals
      go_wp2_with fail
      go_ret
      exact ⟨rfl, hear_new_close w B b G k cg st h (by rw [HD.out]; rfl) hb' (by rw [HD.out]; exact hO)⟩
  · have hR2 : Reads (w.alloc (.cells #[.bool true, .int .i64 ((st.acked : Int) + k), .string ⟨#[]⟩] 33)) (w.heap.size + 1) 1 (some ⟨g, k, none⟩) (st.data.length - k) (strs (st.data.drop k)) := by
      rw [if_neg hck] at hRead
      have e1 : (⟨g, 0, none⟩ : Addr).add k = ⟨g, k, none⟩ := by unfold Addr.add; simp; omega
      have e2 : List.drop k (strs st.data) = strs (st.data.drop k) := by simp [strs]
      simpa [e1, e2] using hRead
    have HC := Lib.hid (fun n cc => cloneS ((w.alloc (.cells #[.bool true, .int .i64 ((st.acked : Int) + k), .string ⟨#[]⟩] 33)).drewN n) (w.heap.size + 1) _ _ cc (strs (st.data.drop k)) (hR2.drewN n) (oneCells_strs _) (Fits.of_small (by omega) (by decide)) (by simp))
    go_enter Try.func9, Try.ntmps9
    go_wp2_with fail
    go_quiet (fail)
    go_wp2_with fail
    go_quiet (fail)
    go_wp2_with fail
    go_region_law ((
        go_simp
        go_at_call 20
        refine (HC.out _ _).mono ?_
        rintro e w1 ⟨V, c, rfl, hO, hb⟩
        have hb' := below_of_drewN hb
        have hE1 := hE.below hb'
        have n2 : w1.cell? ⟨b, 2, none⟩ = some (.slice (some ⟨g, 0, none⟩) st.data.length ca) := by { rw [hE1.blk.cell]; rfl }
        have n3 : w1.cell? ⟨b, 3, none⟩ = some (.int .i64 st.acked) := by { rw [hE1.blk.cell]; rfl }
        have n4 : w1.cell? ⟨w.heap.size, 1, none⟩ = some (.int .i64 ((st.acked : Int) + k)) := by { rw [((Blk.new w _ _).below hb' (by simp)).cell]; rfl }
        have f2 := hE1.blk.frozen 2
        have f3 := hE1.blk.frozen 3))
    all_goals
      go_wp2_with fail
      go_ret
      exact ⟨rfl, hear_new_close w B b G ca cg st h HN.out hb' hO⟩
end
end Go.Proofs.Ytlcjgldlblpboaa

/- leafref2.Copy, walked: another document that says the same. Conditions: the document is right. -/
import Derived.Deep.RegionHeld3
import Derived.Test.YthfbjfocmnikaaaGreatDoorMark
import Derived.Test.YthfbjfocmnikaaaGreatDoorRefCopyAt
namespace Go.Proofs.YthfbjfocmnikaaaGreatDoor
open Go.RowKit
set_option linter.unusedVariables false
theorem elemLf : Elem Tryz.prog 49 115 3 32 := Elem.mk_ (z := .agg #[.string ⟨#[]⟩, .int .i64 0, .bool false]) Tryz.underlying49 (by kernel_rfl) rfl (by decide)
theorem elemMk : Elem Tryz.prog 51 136 3 32 := Elem.mk_ (z := .agg #[.string ⟨#[]⟩, .int .i64 0, .int .i64 0]) Tryz.underlying51 (by kernel_rfl) rfl (by decide)
/-- Midway through a copy. -/
structure CpAt (w : World) (p kb : Nat) (ks : Array Value) (A1 : Option Addr) (n1 c1 : Nat) (xs1 : List Value) (A2 : Option Addr) (n2 c2 : Nat) (xs2 : List Value) (A4 : Option Addr) (n4 c4 : Nat) (xs4 : List Value) (W : World) : Prop where
  bel : Below w.heap.size w W
  low : w.heap.size ≤ p ∧ w.heap.size ≤ kb
  blk : Blk W p 53 #[.slice A1 n1 c1, .slice A2 n2 c2, .slice (some ⟨kb, 0, none⟩) 8 8, .slice A4 n4 c4]
  kn : Blk W kb 3 ks
  o1 : Own W w.heap.size 115 3 A1 n1 c1 xs1
  o2 : Own W w.heap.size 136 3 A2 n2 c2 xs2
  o4 : Own W w.heap.size 30 6 A4 n4 c4 xs4
namespace CpAt
variable {w W W2 : World} {p kb : Nat} {ks : Array Value} {A1 : Option Addr} {n1 c1 : Nat} {xs1 : List Value} {A2 : Option Addr} {n2 c2 : Nat} {xs2 : List Value} {A4 : Option Addr} {n4 c4 : Nat} {xs4 : List Value}
theorem cells (h : CpAt w p kb ks A1 n1 c1 xs1 A2 n2 c2 xs2 A4 n4 c4 xs4 W) : W.cell? ⟨p, 0, none⟩ = some (.slice A1 n1 c1) ∧ W.cell? ⟨p, 1, none⟩ = some (.slice A2 n2 c2) ∧ W.cell? ⟨p, 2, none⟩ = some (.slice (some ⟨kb, 0, none⟩) 8 8) ∧ W.cell? ⟨p, 3, none⟩ = some (.slice A4 n4 c4) :=
  ⟨by rw [h.blk.cell]; rfl, by rw [h.blk.cell]; rfl, by rw [h.blk.cell]; rfl, by rw [h.blk.cell]; rfl⟩
theorem drewN (h : CpAt w p kb ks A1 n1 c1 xs1 A2 n2 c2 xs2 A4 n4 c4 xs4 W) (k : Nat) : CpAt w p kb ks A1 n1 c1 xs1 A2 n2 c2 xs2 A4 n4 c4 xs4 (W.drewN k) := ⟨below_drewN h.bel k, h.low, h.blk, h.kn, h.o1, h.o2, h.o4⟩
theorem only (h : CpAt w p kb ks A1 n1 c1 xs1 A2 n2 c2 xs2 A4 n4 c4 xs4 W) (ho : Only [] W W2) : CpAt w p kb ks A1 n1 c1 xs1 A2 n2 c2 xs2 A4 n4 c4 xs4 W2 :=
  ⟨h.bel.trans (ho.below_nil.mono h.bel.size), h.low, ho.blk h.blk (by simp), ho.blk h.kn (by simp), h.o1.only ho (by simp), h.o2.only ho (by simp), h.o4.only ho (by simp)⟩
theorem fin (h : CpAt w p kb ks A1 n1 c1 xs1 A2 n2 c2 xs2 A4 n4 c4 xs4 W) {i : Nat} {u : Value} : Only [p] W (W.setCell ⟨p, i, none⟩ u) ∧ Below w.heap.size w (W.setCell ⟨p, i, none⟩ u) ∧ Blk (W.setCell ⟨p, i, none⟩ u) kb 3 ks := by
  have hs : Only [p] W (W.setCell ⟨p, i, none⟩ u) := (Only.refl _ _).setCell (.inl (by simp)) _
  exact ⟨hs, h.bel.trans (hs.below h.bel.size (fun x hx => by simp at hx; subst hx; exact h.low.1)), hs.blk h.kn (fun hm => by simp at hm; exact h.kn.ne_ h.blk (by decide) hm)⟩
theorem app1 (h : CpAt w p kb ks none 0 0 [] A2 n2 c2 xs2 A4 n4 c4 xs4 W) {V : Option Addr} {n c : Nat} {xs : List Value} (hO : Own W2 w.heap.size 115 3 V n c xs) (ho : Only [] W W2) : CpAt w p kb ks V n c xs A2 n2 c2 xs2 A4 n4 c4 xs4 (W2.setCell ⟨p, 0, none⟩ (.slice V n c)) := by
  have h2 := h.only ho
  obtain ⟨hs, hb, hk⟩ := h2.fin (i := 0) (u := .slice V n c)
  exact ⟨hb, h.low, h2.blk.set_ 0 _, hk, (hO.only hs (fun x hx hm => by simp at hm; subst hm; exact hO.blk_ne h2.blk (by decide) hx)), (h2.o2.only hs (fun x hx hm => by simp at hm; subst hm; exact h2.o2.blk_ne h2.blk (by decide) hx)), (h2.o4.only hs (fun x hx hm => by simp at hm; subst hm; exact h2.o4.blk_ne h2.blk (by decide) hx))⟩
theorem app2 (h : CpAt w p kb ks A1 n1 c1 xs1 none 0 0 [] A4 n4 c4 xs4 W) {V : Option Addr} {n c : Nat} {xs : List Value} (hO : Own W2 w.heap.size 136 3 V n c xs) (ho : Only [] W W2) : CpAt w p kb ks A1 n1 c1 xs1 V n c xs A4 n4 c4 xs4 (W2.setCell ⟨p, 1, none⟩ (.slice V n c)) := by
  have h2 := h.only ho
  obtain ⟨hs, hb, hk⟩ := h2.fin (i := 1) (u := .slice V n c)
  exact ⟨hb, h.low, h2.blk.set_ 1 _, hk, (h2.o1.only hs (fun x hx hm => by simp at hm; subst hm; exact h2.o1.blk_ne h2.blk (by decide) hx)), (hO.only hs (fun x hx hm => by simp at hm; subst hm; exact hO.blk_ne h2.blk (by decide) hx)), (h2.o4.only hs (fun x hx hm => by simp at hm; subst hm; exact h2.o4.blk_ne h2.blk (by decide) hx))⟩
theorem app4 (h : CpAt w p kb ks A1 n1 c1 xs1 A2 n2 c2 xs2 none 0 0 [] W) {V : Option Addr} {n c : Nat} {xs : List Value} (hO : Own W2 w.heap.size 30 6 V n c xs) (ho : Only [] W W2) : CpAt w p kb ks A1 n1 c1 xs1 A2 n2 c2 xs2 V n c xs (W2.setCell ⟨p, 3, none⟩ (.slice V n c)) := by
  have h2 := h.only ho
  obtain ⟨hs, hb, hk⟩ := h2.fin (i := 3) (u := .slice V n c)
  exact ⟨hb, h.low, h2.blk.set_ 3 _, hk, (h2.o1.only hs (fun x hx hm => by simp at hm; subst hm; exact h2.o1.blk_ne h2.blk (by decide) hx)), (h2.o2.only hs (fun x hx hm => by simp at hm; subst hm; exact h2.o2.blk_ne h2.blk (by decide) hx)), (hO.only hs (fun x hx hm => by simp at hm; subst hm; exact hO.blk_ne h2.blk (by decide) hx))⟩
theorem known (h : CpAt w p kb ks A1 n1 c1 xs1 A2 n2 c2 xs2 A4 n4 c4 xs4 W) {ks' : Array Value} (hk : Blk W2 kb 3 ks') (ho : Only [kb] W W2) : CpAt w p kb ks' A1 n1 c1 xs1 A2 n2 c2 xs2 A4 n4 c4 xs4 W2 :=
  ⟨h.bel.trans (ho.below h.bel.size (fun x hx => by simp at hx; subst hx; exact h.low.2)), h.low, ho.blk h.blk (fun hm => by simp at hm; exact h.blk.ne_ h.kn (by decide) hm), hk,
    h.o1.only ho (fun x hx hm => by simp at hm; subst hm; exact h.o1.blk_ne h.kn (by decide) hx), h.o2.only ho (fun x hx hm => by simp at hm; subst hm; exact h.o2.blk_ne h.kn (by decide) hx), h.o4.only ho (fun x hx hm => by simp at hm; subst hm; exact h.o4.blk_ne h.kn (by decide) hx)⟩
theorem done {B : Nat} {S : List Nat} {b : Nat} {st : LDoc} {D : RLay} (h0 : RDocIs w B S b st D) (hl : st.known.length = 8) (h : CpAt w p kb (ints st.known).toArray A1 st.book.length c1 (lcells st.book) A2 st.marks.length c2 (mcells st.marks) A4 st.ops.length c4 (ocells D.ys) W) : RCopyPost w B S st (.returned (.pointer (some ⟨p, 0, none⟩))) W := by
  have h3 : Own W w.heap.size 3 1 (some ⟨kb, 0, none⟩) 8 8 (ints st.known) := ⟨by simp [ints, hl], .inr ⟨kb, 8, _, rfl, h.low.2, h.kn, Nat.le_refl _, by decide, by simp [ints, hl], by rw [List.take_of_length_le (by simp [ints, hl])]⟩⟩
  obtain ⟨k1, k2, k3⟩ := rcopy_close h0 h.bel hl h.low.1 h.blk h.o1 h.o2 h3 h.o4
  exact ⟨p, _, _, rfl, k1, h.bel, k2, k3⟩
end CpAt
theorem splice_whole (xs : List Value) (h : xs.length = 8) : splice zeros8.toList 0 xs = xs := by
  unfold splice
  rw [List.take_zero, List.nil_append, Nat.zero_add, h, List.drop_of_length_le (by decide), List.append_nil]
set_option maxRecDepth 100000 in
set_option maxHeartbeats 4000000 in
theorem rcopy_any (w : World) (B : Nat) (S : List Nat) (b : Nat) (st : LDoc) (D : RLay) (h : RDocIs w B S b st D) (ok : st.Ok) : Calls Tryz.prog 19 #[.pointer (some ⟨b, 0, none⟩)] w (RCopyPost w B S st) := by
  have HN := Lib.hid (fun W => rnew_at W)
  have HH := Lib.hid h
  have HL8 := Lib.hid (vec_ok ok.known).1
  have HF1 : Hid (Fits (0 + st.book.length) 32) := Fits.of_small (by have := ok.book.few; omega) (by decide)
  have HF2 : Hid (Fits (0 + st.marks.length) 32) := Fits.of_small (by have := ok.marks.few; omega) (by decide)
  have HF4 : Hid (Fits (0 + st.ops.length) 72) := Fits.of_small (by have := ok.few; omega) (by decide)
  have HCD : Hid (∀ W, Below w.heap.size w W → W.cell? ⟨b, 0, none⟩ = some (.slice D.a1 st.book.length D.c1) ∧ W.cell? ⟨b, 1, none⟩ = some (.slice D.a2 st.marks.length D.c2) ∧ W.cell? ⟨b, 2, none⟩ = some (.slice D.a3 8 D.c3) ∧ W.cell? ⟨b, 3, none⟩ = some (.slice D.a4 st.ops.length D.c4)) := fun W hW => by
    have hk := h.blk.below hW h.blk.lt
    refine ⟨by rw [hk.cell]; rfl, by rw [hk.cell]; rfl, ?_, by rw [hk.cell]; rfl⟩
    have := hk.cell 2
    rw [this, ← HL8.out]; rfl
  have hbw : b < w.heap.size := h.blk.lt
  have HYS := Lib.hid h.ys_len
  clear h
  go_enter Tryz.func19, Tryz.ntmps19
  go_wp2_with fail
  refine (HN.out _).mono ?_
  rintro e w1 hnew
  obtain ⟨p, kb, rfl, hM⟩ : ∃ p kb, e = .returned (.pointer (some ⟨p, 0, none⟩)) ∧ CpAt w p kb zeros8 none 0 0 [] none 0 0 [] none 0 0 [] w1 :=
    ⟨w.heap.size + 1, w.heap.size, hnew.1, hnew.2.1, ⟨by omega, by omega⟩, hnew.2.2.2.1, hnew.2.2.2.2, Own.nil _ _ _ _, Own.nil _ _ _ _, Own.nil _ _ _ _⟩
  have HM := Lib.hid hM
  clear hM hnew HN
  go_upto_region 2 with (fail)
  go_cut [] (fun wx => ∃ V c, Hid (CpAt w p kb zeros8 V st.book.length c (lcells st.book) none 0 0 [] none 0 0 [] wx))
  case first =>
    obtain ⟨p0, p1, p2, p3⟩ := HM.out.cells
    obtain ⟨d0, d1, d2, d3⟩ := HCD.out _ HM.out.bel
    have HR : Hid (∀ k, Reads (w1.drewN k) w1.heap.size 3 D.a1 st.book.length (lcells st.book)) := fun k => ((HH.out.book.row.below HM.out.bel).more HM.out.bel.size).drewN k
    go_region_law ((refine step_app (base := w.heap.size) (xs := []) _ (.tmp 9) (.tmp 13) rfl rfl elemLf rfl rfl (Own.nil _ _ _ _) (HR.out _) (oneCells_l _) HF1.out (HM.out.bel.size) ?_
                    intro V c w2 hO hL hg
                    have hM2 := HM.out.only (W2 := w2) (by first | exact hL | exact (Only.refl _ _).drewN _ |>.trans hL)
                    have hfr := hM2.blk.frozen 0
                    obtain ⟨p0, p1, p2, p3⟩ := hM2.cells))
    all_goals
      go_wp2_with fail
      go_meet
      case rel =>
        rw [Nat.zero_add] at hO
        exact ⟨V, c, HM.out.app1 hO (by first | exact hL | exact (Only.refl _ _).drewN _ |>.trans hL)⟩
  case rest =>
  obtain ⟨V1, c1, HM'⟩ := hcut
  clear HM
  have HM := HM'
  clear HM'
  go_upto_region 3 with (fail)
  go_cut [] (fun wx => ∃ V c, Hid (CpAt w p kb zeros8 V1 st.book.length c1 (lcells st.book) V st.marks.length c (mcells st.marks) none 0 0 [] wx))
  case first =>
    obtain ⟨p0, p1, p2, p3⟩ := HM.out.cells
    obtain ⟨d0, d1, d2, d3⟩ := HCD.out _ HM.out.bel
    have HR : Hid (∀ k, Reads (wc.drewN k) wc.heap.size 3 D.a2 st.marks.length (mcells st.marks)) := fun k => ((HH.out.marks.row.below HM.out.bel).more HM.out.bel.size).drewN k
    go_region_law ((refine step_app (base := w.heap.size) (xs := []) _ (.tmp 21) (.tmp 25) rfl rfl elemMk rfl rfl (Own.nil _ _ _ _) (HR.out _) (oneCells_m _) HF2.out (HM.out.bel.size) ?_
                    intro V c w2 hO hL hg
                    have hM2 := HM.out.only (W2 := w2) (by first | exact hL | exact (Only.refl _ _).drewN _ |>.trans hL)
                    have hfr := hM2.blk.frozen 1
                    obtain ⟨p0, p1, p2, p3⟩ := hM2.cells))
    all_goals
      go_wp2_with fail
      go_meet
      case rel =>
        rw [Nat.zero_add] at hO
        exact ⟨V, c, HM.out.app2 hO (by first | exact hL | exact (Only.refl _ _).drewN _ |>.trans hL)⟩
  case rest =>
  obtain ⟨V2, c2, HM'⟩ := hcut
  clear HM
  have HM := HM'
  clear HM'
  go_upto_region 4 with (fail)
  go_cut [] (fun wx => Hid (CpAt w p kb (ints st.known).toArray V1 st.book.length c1 (lcells st.book) V2 st.marks.length c2 (mcells st.marks) none 0 0 [] wx))
  case first =>
    obtain ⟨g3, hg3, _⟩ := HH.out.known.head (by rw [HL8.out]; omega)
    obtain ⟨p0, p1, p2, p3⟩ := HM.out.cells
    obtain ⟨d0, d1, d2, d3⟩ := HCD.out _ HM.out.bel
    rw [hg3] at d2
    have HS : Hid (∀ k j v, (ints st.known)[j]? = some v → (wc.drewN k).cell? ((⟨g3, 0, none⟩ : Addr).add j) = some v) := fun k j v hv => by
      obtain ⟨ad, e, hb, hc⟩ := ((HH.out.known.reads.below HM.out.bel)).2 (by rw [HL8.out]; omega)
      rw [hg3] at e
      obtain rfl : (⟨g3, 0, none⟩ : Addr) = ad := by injection e
      exact hc j v hv
    clear hg3
    go_region_law (refine step_copy_blk _ (.tmp 32) (.tmp 36) rfl elemI rfl kb 0 8 8 ⟨g3, 0, none⟩ 8 D.c3 (by simp [Act.eval, Act.put]) (by simp [Act.eval, Act.put]) zeros8.toList (ints st.known) (by first | exact HM.out.kn | exact HM.out.kn.drewN _) (by simp [ints, HL8.out]) (HS.out _) (by simp [ints, HL8.out, zeros8]) (oneCells_ints _) ?_; intro w3 hb3 ho3)
    all_goals
      go_wp2_with fail
      go_meet
      case rel =>
        have hb4 := hb3.out
        rw [splice_whole _ (by simp [ints, HL8.out])] at hb4
        exact HM.out.known hb4 (by first | exact ho3.out | exact (Only.refl _ _).drewN _ |>.trans ho3.out)
  case rest =>
  clear HM
  have HM := hcut
  clear hcut
  go_upto_region 5 with (fail)
  go_cut [] (fun wx => ∃ V c, Hid (CpAt w p kb (ints st.known).toArray V1 st.book.length c1 (lcells st.book) V2 st.marks.length c2 (mcells st.marks) V st.ops.length c (ocells D.ys) wx))
  case first =>
    obtain ⟨p0, p1, p2, p3⟩ := HM.out.cells
    obtain ⟨d0, d1, d2, d3⟩ := HCD.out _ HM.out.bel
    have HR : Hid (∀ k, Reads (wc.drewN k) wc.heap.size 6 D.a4 st.ops.length (ocells D.ys)) := fun k => ((HH.out.ops.reads.below HM.out.bel).more HM.out.bel.size).drewN k
    go_region_law ((refine step_app (base := w.heap.size) (xs := []) _ (.tmp 42) (.tmp 46) rfl rfl elemOu rfl rfl (Own.nil _ _ _ _) (HR.out _) (ocells_one _) HF4.out (HM.out.bel.size) ?_
                    intro V c w2 hO hL hg
                    have hM2 := HM.out.only (W2 := w2) (by first | exact hL | exact (Only.refl _ _).drewN _ |>.trans hL)
                    have hfr := hM2.blk.frozen 3
                    obtain ⟨p0, p1, p2, p3⟩ := hM2.cells))
    all_goals
      go_wp2_with fail
      go_meet
      case rel =>
        rw [Nat.zero_add] at hO
        exact ⟨V, c, HM.out.app4 hO (by first | exact hL | exact (Only.refl _ _).drewN _ |>.trans hL)⟩
  case rest =>
  obtain ⟨V4, c4, HM'⟩ := hcut
  clear HM
  have HM := HM'
  clear HM'
  go_wp2_with fail
  go_ret
  exact HM.out.done HH.out HL8.out
end Go.Proofs.YthfbjfocmnikaaaGreatDoor

/- slices.Insert of one mark into a row of the call's own, walked: what stood ahead, the mark, what stood behind. Conditions: the row is short; the mark lies in a block of its own. -/
import Derived.Test.YthfbjfocmnikaaaGreatDoorIns
import Derived.Test.YthfbjfocmnikaaaGreatDoorMark
namespace Go.Proofs.YthfbjfocmnikaaaGreatDoor
open Go.RowKit
set_option linter.unusedVariables false
namespace InsMark
theorem elem : Elem Tryz.prog 51 136 3 32 := Elem.mk_ (z := .agg #[.string ⟨#[]⟩, .int .i64 0, .int .i64 0]) Tryz.underlying51 (by kernel_rfl) rfl (by decide)
def Post (w : World) (B : Nat) (A : Option Addr) (n i : Nat) (xs x : List Value) (e : Ending) (w' : World) : Prop :=
  ∃ A' c', e = .returned (.slice A' (n + 1) c') ∧ Own w' B 136 3 A' (n + 1) c' (xs.take (i * 3) ++ x ++ xs.drop (i * 3)) ∧ Only (ob A) w w' ∧ ∀ g ∈ ob A', g ∈ ob A ∨ w.heap.size ≤ g
theorem splice_at {α : Type} (a r x : List α) : splice (a ++ r) a.length x = a ++ (x ++ r.drop x.length) := by
  unfold splice
  rw [List.take_left, ← List.drop_drop, List.drop_left]
section
variable (w : World) (B c n vb : Nat) (xs x : List Value)
theorem reads_x {w : World} {vb : Nat} {x : List Value} (hV : Blk w vb 136 x.toArray) (hx : x.length = 3) : Reads w (vb + 1) 3 (some ⟨vb, 0, none⟩) 1 x := by
  refine ⟨by omega, fun _ => ⟨_, rfl, by simp, fun j u hu => ?_⟩⟩
  have h := hV.cell j
  have e1 : (⟨vb, 0, none⟩ : Addr).add j = ⟨vb, j, none⟩ := by
    unfold Addr.add
    by_cases hj : j = 0 <;> simp [hj]
  rw [e1, h]
  simpa using hu
set_option maxRecDepth 100000 in
set_option maxHeartbeats 2000000 in
theorem at_end (A : Option Addr) (hO : Own w B 136 3 A n c xs) (hV : Blk w vb 136 x.toArray) (hx : x.length = 3) (h1x : OneCells x) (hn : n ≤ 1000) (hB : B ≤ w.heap.size) :
    Calls Tryz.prog 225 #[.slice A n c, .int .i64 n, .slice (some ⟨vb, 0, none⟩) 1 1] w (Post w B A n n xs x) := by
  have HO := Lib.hid hO
  have HR := Lib.hid (reads_x hV hx)
  have hF : Fits (n + 1) 32 := Fits.of_small (by omega) (by decide)
  have hcl := hO.cap_le
  have hcm : c ≤ 9223372036854775807 := by have := hO.cap_max; unfold maxLen at this; omega
  have HX : Hid (xs.take (n * 3) ++ x ++ xs.drop (n * 3) = xs ++ x) := by
    show _ = _
    have := hO.len
    rw [List.take_of_length_le (by omega), List.drop_of_length_le (by omega), List.append_nil]
  clear hO hV hx
  cases A with
  | none =>
    go_enter Tryz.func225, Tryz.ntmps225
    go_wp2_with (at_builtin; refine wpList_app _ (.tmp 23) (.tmp 24) rfl rfl elem rfl rfl HO.out HR.out h1x hF hB ?_; intro V cV w3 hP hL hg)
    all_goals
      go_ret
      exact ⟨V, cV, rfl, by rw [HX.out]; exact hP, hL, fun g hg' => (hg g hg').imp id (fun e => by omega)⟩
  | some ad =>
    go_enter Tryz.func225, Tryz.ntmps225
    go_wp2_with (at_builtin; refine wpList_app _ (.tmp 23) (.tmp 24) rfl rfl elem rfl rfl HO.out HR.out h1x hF hB ?_; intro V cV w3 hP hL hg)
    all_goals
      go_ret
      exact ⟨V, cV, rfl, by rw [HX.out]; exact hP, hL, fun g hg' => (hg g hg').imp id (fun e => by omega)⟩
set_option maxRecDepth 100000 in
set_option maxHeartbeats 4000000 in
theorem grow (i g : Nat) (hO : Own w B 136 3 (some ⟨g, 0, none⟩) n c xs) (hV : Blk w vb 136 x.toArray) (hx : x.length = 3) (h1 : OneCells xs) (h1x : OneCells x) (hn : n ≤ 1000) (hB : B ≤ w.heap.size) (hi : i < n) (hroom : c < n + 1) :
    Calls Tryz.prog 225 #[.slice (some ⟨g, 0, none⟩) n c, .int .i64 i, .slice (some ⟨vb, 0, none⟩) 1 1] w (Post w B (some ⟨g, 0, none⟩) n i xs x) := by
  have hcl := hO.cap_le
  have hlen := hO.len
  have hrd := hO.reads
  obtain ⟨ad0, e0, _, hcells⟩ := hrd.2 (by omega)
  injection e0 with e0
  subst e0
  obtain ⟨G, row, w1, hrun, hblk, hlen1, hGn, hGm, hbel⟩ := append_make w elem (by decide) Tryz.underlying3 ⟨g, 0, none⟩ i c (n + 1 - i) (xs.take (i * 3)) (by rw [List.length_take]; omega)
    (fun j v hj => hcells j v (by rw [List.getElem?_take] at hj; split at hj <;> first | exact hj | cases hj)) (by omega) (by omega) (by omega) (Fits.of_small (by omega) (by decide))
  rw [show i + (n + 1 - i) = n + 1 by omega] at hrun hGn
  rw [show ((n + 1 - i : Nat) : Int) = (n : Int) + 1 - (i : Int) by omega] at hrun
  have hgl : g < w.heap.size := (hO.lt g (by simp [ob])).2
  have hvl : vb < w.heap.size := hV.lt
  have HRUN := Lib.hid hrun
  have HBLK := Lib.hid hblk
  have HBEL := Lib.hid hbel
  have HCX : Hid (∀ j v, x[j]? = some v → w1.cell? ((⟨vb, 0, none⟩ : Addr).add j) = some v) := fun j v hj => by
    obtain ⟨ad, e, _, hc⟩ := (reads_x hV hx).2 (by omega)
    injection e with e; subst e
    exact (hbel.cell (by rw [block_of_add]; exact hvl)).trans (hc j v hj)
  have HCD : Hid (∀ j v, (xs.drop (i * 3))[j]? = some v → w1.cell? ((⟨g, i * 3, none⟩ : Addr).add j) = some v) := fun j v hj => by
    have e1 : (⟨g, i * 3, none⟩ : Addr).add j = (⟨g, 0, none⟩ : Addr).add (i * 3 + j) := by
      unfold Addr.add
      by_cases hj : j = 0 <;> by_cases hi : i * 3 = 0 <;> simp [hj, hi] <;> omega
    rw [e1]
    exact (hbel.cell (by rw [block_of_add]; exact hgl)).trans (hcells _ v (by rw [List.getElem?_drop] at hj; exact hj))
  have hGm2 : G ≤ 9223372036854775807 := by unfold maxLen at hGm; omega
  have hGm2' : G ≤ maxLen := hGm
  have d1 : ((i : Int) == (n : Int)) = false := by rw [beq_eq_false_iff_ne]; omega
  have hi0 : ¬ ((i : Int) = (n : Int)) := by omega
  have hci : ¬ (c = i) := by omega
  have hGi : ¬ (G = i) := by omega
  have hGi1 : ¬ (G = i + 1) := by omega
  have hin : (i : Int) ≤ (n : Int) := by omega
  have HX := Lib.hid hx
  clear hO hV hrd hcells hrun hblk hbel hGm hx
  go_enter Tryz.func225, Tryz.ntmps225
  go_upto_region 10 with (at_builtin; refine Lib.wpList_append_run _ rfl _ _ _ _ rfl _ _ rfl rfl _ _ (HRUN.out _) ?_)
  go_wp2_with (refine wpList_copy_blk (o := ⟨some 45, _, _, _, _, _⟩) _ (.tmp 43) (.tmp 44) rfl elem rfl w.heap.size (i * 3) (n + 1 - i) (G - i) ⟨vb, 0, none⟩ 1 1 rfl rfl _ x HBLK.out (by rw [HX.out]; simp only [Nat.min_def]; split <;> omega) HCX.out (by rw [HX.out, hlen1]; omega) h1x ?_; intro w2 hb2 ho2)
  have HP1 : Hid (splice (xs.take (i * 3) ++ row) (i * 3) x = xs.take (i * 3) ++ (x ++ row.drop 3)) := by
    show _ = _
    have h := splice_at (xs.take (i * 3)) row x
    rwa [show (xs.take (i * 3)).length = i * 3 by rw [List.length_take]; omega, HX.out] at h
  have HB2 : Hid (Blk w2 w.heap.size 136 (xs.take (i * 3) ++ (x ++ row.drop 3)).toArray) := by show Blk _ _ _ _; rw [← HP1.out]; exact hb2.out
  have hrl : row.length = G * 3 - i * 3 := by rw [List.length_append, List.length_take] at hlen1; omega
  have hl2 : (xs.take (i * 3) ++ (x ++ row.drop 3)).length = G * 3 := by simp only [List.length_append, List.length_take, List.length_drop, HX.out]; omega
  have HCD2 : Hid (∀ j v, (xs.drop (i * 3))[j]? = some v → w2.cell? ((⟨g, i * 3, none⟩ : Addr).add j) = some v) := fun j v hj =>
    (ho2.out.cell (by rw [block_of_add]; exact Nat.lt_of_lt_of_le hgl HBEL.out.size) (by rw [block_of_add]; simp; omega)).trans (HCD.out j v hj)
  have h1d : OneCells (xs.drop (i * 3)) := fun u hu => h1 u (List.mem_of_mem_drop hu)
  have q1 : IntKind.i64.wrap ((i : Int) + 1) = (i : Int) + 1 := IntWalk.i64_in _ (by omega)
  have q2 : (0 : Int) ≤ (i : Int) + 1 := by omega
  have q3 : ((i : Int) + 1).toNat = i + 1 := by omega
  have q4 : (i : Int) + 1 ≤ (n : Int) + 1 := by omega
  clear hb2 HP1 HCD
  go_region_law (refine step_copy_blk _ (.tmp 50) (.tmp 53) rfl elem rfl w.heap.size ((i + 1) * 3) (n + 1 - (i + 1)) (G - (i + 1)) ⟨g, i * 3, none⟩ (n - i) (c - i) (by simp [Act.eval, Act.put]) (by simp [Act.eval, Act.put]) _ (xs.drop (i * 3)) HB2.out (by rw [List.length_drop, hlen]; simp only [Nat.min_def]; split <;> omega) HCD2.out (by rw [hl2, List.length_drop]; omega) h1d ?_; intro w3 hb3 ho3)
  go_wp2_with fail
  go_ret
  have HP2 : splice (xs.take (i * 3) ++ (x ++ row.drop 3)) ((i + 1) * 3) (xs.drop (i * 3)) = (xs.take (i * 3) ++ x ++ xs.drop (i * 3)) ++ (row.drop 3).drop (xs.drop (i * 3)).length := by
    have h := splice_at (xs.take (i * 3) ++ x) (row.drop 3) (xs.drop (i * 3))
    rw [show (xs.take (i * 3) ++ x).length = (i + 1) * 3 by rw [List.length_append, List.length_take, HX.out]; omega] at h
    rw [← List.append_assoc, h]; simp only [List.append_assoc]
  have hb4 := hb3.out
  rw [HP2] at hb4
  have hlr : (xs.take (i * 3) ++ x ++ xs.drop (i * 3)).length = (n + 1) * 3 := by simp only [List.length_append, List.length_take, List.length_drop, HX.out]; omega
  refine ⟨_, G, rfl, Own.of_blk hb4 hlr ?_ hB hGm2' hGn, ?_, fun g' hg' => .inr ?_⟩
  · rw [← HP2, length_splice _ _ _ (by rw [hl2, List.length_drop]; omega), hl2]
  · have o1 : Only [] w w1 := Only.of_below HBEL.out
    exact (((o1.mono (S' := ob (some ⟨g, 0, none⟩)) (by simp)).trans_new ho2.out (fun i hi => .inr (by simp at hi; omega))).trans_new ((Only.refl [] _).drewN _) (by simp)).trans_new ho3.out (fun i hi => .inr (by simp at hi; omega))
  · simp [ob] at hg'; omega
set_option maxRecDepth 100000 in
set_option maxHeartbeats 4000000 in
theorem inPlace (i g : Nat) (hO : Own w B 136 3 (some ⟨g, 0, none⟩) n c xs) (hV : Blk w vb 136 x.toArray) (hx : x.length = 3) (hne : vb ≠ g) (h1 : OneCells xs) (h1x : OneCells x) (hn : n ≤ 1000) (hi : i < n) (hroom : n + 1 ≤ c) :
    Calls Tryz.prog 225 #[.slice (some ⟨g, 0, none⟩) n c, .int .i64 i, .slice (some ⟨vb, 0, none⟩) 1 1] w (Post w B (some ⟨g, 0, none⟩) n i xs x) := by
  have hlen := hO.len
  obtain ⟨spare, hblk, hlen1, hBg, hcm, hnc⟩ := hO.whole
  have hgl : g < w.heap.size := (hO.lt g (by simp [ob])).2
  have hvl : vb < w.heap.size := hV.lt
  have hls : spare.length = c * 3 - n * 3 := by rw [List.length_append] at hlen1; omega
  have HBLK := Lib.hid hblk
  have HX := Lib.hid hx
  have HSP : Hid (spare.take 3 ++ spare.drop 3 = spare) := List.take_append_drop 3 spare
  have hcm1 : c ≤ 9223372036854775807 := by unfold maxLen at hcm; omega
  have hcm2 := Lib.hid hcm
  have hov : ∀ lb cb, (callFunc 247 #[.slice (some ⟨vb, 0, none⟩) 1 1, .slice (some ⟨g, (i + 1) * 3, none⟩) lb cb]).run Tryz.prog w = .ok (.value (.bool false)) w := fun lb cb => by
    rw [run_callFunc_extern Tryz.func247 (by kernel_rfl) (by kernel_rfl) (by kernel_rfl) (e := Extern.SlicesOverlaps.overlaps #[51, 51] #[4]) (by kernel_rfl),
      Lib.run_overlaps_apart w 51 4 136 Tryz.underlying51 3 (fun w => by kernel_rfl) ⟨vb, 0, none⟩ ⟨g, (i + 1) * 3, none⟩ 1 1 lb cb hne 136 136 3 (c * 3) (by simp only [World.shape?]; rw [show w.heap[vb]? = _ from hV]; simp [hx]) (by simp only [World.shape?]; rw [show w.heap[g]? = _ from hblk]; simpa using hlen1) (by omega) (hV.frozen 0) (hV.frozen 3)]
    rfl
  have HCD : Hid (∀ (W : World), (∀ y, W.cell? y = w.cell? y) → ∀ j v, (xs.drop (i * 3))[j]? = some v → W.cell? ((⟨g, i * 3, none⟩ : Addr).add j) = some v) := fun W hW j v hj => by
    have e1 : (⟨g, i * 3, none⟩ : Addr).add j = ⟨g, i * 3 + j, none⟩ := by
      unfold Addr.add
      by_cases hj : j = 0 <;> simp [hj]
    rw [e1, hW, hblk.cell]
    rw [List.getElem?_drop] at hj
    have hlt := (List.getElem?_eq_some_iff.1 hj).1
    simpa [List.getElem?_append_left hlt] using hj
  have HXR := Lib.hid (reads_x hV hx)
  have HOV := Lib.hid hov
  have hdl : (xs.drop (i * 3)).length = (n - i) * 3 := by rw [List.length_drop, hlen]; omega
  have HDL := Lib.hid hdl
  have h1d : OneCells (xs.drop (i * 3)) := fun u hu => h1 u (List.mem_of_mem_drop hu)
  have hi0 : ¬ ((i : Int) = (n : Int)) := by omega
  have d1 : ((i : Int) == (n : Int)) = false := by rw [beq_eq_false_iff_ne]; omega
  have hci : ¬ (c = i) := by omega
  have hci1 : ¬ (c = i + 1) := by omega
  have q1 : IntKind.i64.wrap ((i : Int) + 1) = (i : Int) + 1 := IntWalk.i64_in _ (by omega)
  have q2 : (0 : Int) ≤ (i : Int) + 1 := by omega
  have q3 : ((i : Int) + 1).toNat = i + 1 := by omega
  have q4 : (i : Int) + 1 ≤ (n : Int) + 1 := by omega
  have q5 : (i : Int) ≤ (n : Int) := by omega
  have q6 : ¬ ((c : Int) < (n : Int) + 1) := by omega
  have q7 : (i : Int) ≤ (n : Int) + 1 := by omega
  clear hO hV hblk hx hcm hov hdl
  go_enter Tryz.func225, Tryz.ntmps225
  go_wp2_with (simp only [HOV.out])
  go_region_law (refine step_copy_blk _ (.tmp 73) (.tmp 76) rfl elem rfl g ((i + 1) * 3) (n - i) (c - (i + 1)) ⟨g, i * 3, none⟩ (n + 1 - i) (c - i) (by simp [Act.eval, Act.put]) (by simp [Act.eval, Act.put]) _ (xs.drop (i * 3)) HBLK.out (by rw [HDL.out]; simp only [Nat.min_def]; split <;> omega) (HCD.out _ (fun _ => rfl)) (by rw [HDL.out, hlen1]; omega) h1d ?_; intro w3 hb3 ho3)
  have HP1 : Hid (splice (xs ++ spare) ((i + 1) * 3) (xs.drop (i * 3)) = xs.take (i * 3) ++ ((xs.drop (i * 3)).take 3 ++ (xs.drop (i * 3) ++ spare.drop 3))) := by
    show _ = _
    unfold splice
    rw [HDL.out, List.take_append_of_le_length (by omega), show (i + 1) * 3 + (n - i) * 3 = xs.length + 3 by omega, List.drop_append, show (i + 1) * 3 = i * 3 + 3 by omega, List.take_add]
    simp
  have HB3 : Hid (Blk w3 g 136 (xs.take (i * 3) ++ ((xs.drop (i * 3)).take 3 ++ (xs.drop (i * 3) ++ spare.drop 3))).toArray) := by show Blk _ _ _ _; rw [← HP1.out]; exact hb3.out
  have hl3 : (xs.take (i * 3) ++ ((xs.drop (i * 3)).take 3 ++ (xs.drop (i * 3) ++ spare.drop 3))).length = c * 3 := by rw [← HP1.out, length_splice _ _ _ (by rw [hlen1, HDL.out]; omega), hlen1]
  have HCX : Hid (∀ j v, x[j]? = some v → w3.cell? ((⟨vb, 0, none⟩ : Addr).add j) = some v) := fun j v hj => by
    obtain ⟨ad, e, _, hc⟩ := HXR.out.2 (by omega)
    injection e with e; subst e
    exact (ho3.out.cell (by rw [block_of_add]; exact hvl) (by rw [block_of_add]; simpa using hne)).trans (hc j v hj)
  have HL3 := Lib.hid hl3
  clear hb3 HP1 hl3
  go_wp2_with (refine wpList_copy_blk (o := ⟨some 82, _, _, _, _, _⟩) _ (.tmp 80) (.tmp 81) rfl elem rfl g (i * 3) (n + 1 - i) (c - i) ⟨vb, 0, none⟩ 1 1 rfl rfl _ x HB3.out (by rw [HX.out]; simp only [Nat.min_def]; split <;> omega) HCX.out (by rw [HX.out, HL3.out]; omega) h1x ?_; intro w4 hb4 ho4)
  go_ret
  have HP2 : splice (xs.take (i * 3) ++ ((xs.drop (i * 3)).take 3 ++ (xs.drop (i * 3) ++ spare.drop 3))) (i * 3) x = (xs.take (i * 3) ++ x ++ xs.drop (i * 3)) ++ spare.drop 3 := by
    have h := splice_at (xs.take (i * 3)) ((xs.drop (i * 3)).take 3 ++ (xs.drop (i * 3) ++ spare.drop 3)) x
    rw [show (xs.take (i * 3)).length = i * 3 by rw [List.length_take]; omega, HX.out] at h
    rw [h, show List.drop 3 ((xs.drop (i * 3)).take 3 ++ (xs.drop (i * 3) ++ spare.drop 3)) = xs.drop (i * 3) ++ spare.drop 3 from List.drop_left' (by rw [List.length_take, HDL.out]; omega)]
    simp only [List.append_assoc]
  have hb5 := hb4.out
  rw [HP2] at hb5
  have hlr : (xs.take (i * 3) ++ x ++ xs.drop (i * 3)).length = (n + 1) * 3 := by simp only [List.length_append, List.length_take, HDL.out, HX.out]; omega
  refine ⟨_, c, rfl, Own.of_blk hb5 hlr ?_ hBg hcm2.out hroom, ?_, fun g' hg' => .inl hg'⟩
  · rw [← HP2, length_splice _ _ _ (by rw [HL3.out, HX.out]; omega), HL3.out]
  · exact (((Only.refl [g] w).drewN _).trans ho3.out).trans ho4.out
/-- slices.Insert of one mark. -/
theorem any (i : Nat) (A : Option Addr) (hO : Own w B 136 3 A n c xs) (hV : Blk w vb 136 x.toArray) (hx : x.length = 3) (hne : vb ∉ ob A) (h1 : OneCells xs) (h1x : OneCells x) (hn : n ≤ 1000) (hB : B ≤ w.heap.size) (hi : i ≤ n) :
    Calls Tryz.prog 225 #[.slice A n c, .int .i64 i, .slice (some ⟨vb, 0, none⟩) 1 1] w (Post w B A n i xs x) := by
  by_cases hin : i = n
  · subst hin
    exact at_end w B c i vb xs x A hO hV hx h1x hn hB
  · obtain ⟨g, rfl, _, _⟩ := hO.head (by omega)
    by_cases hroom : n + 1 ≤ c
    · exact inPlace w B c n vb xs x i g hO hV hx (by simpa [ob] using hne) h1 h1x hn (by omega) hroom
    · exact grow w B c n vb xs x i g hO hV hx h1 h1x hn hB (by omega) (by omega)
end
end InsMark
end Go.Proofs.YthfbjfocmnikaaaGreatDoor

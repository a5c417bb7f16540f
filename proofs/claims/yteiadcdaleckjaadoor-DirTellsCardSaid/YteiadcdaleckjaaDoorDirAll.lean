/- dir.all, walked. -/
import Derived.Test.YteiadcdaleckjaaDoorDir
namespace Go.Proofs.YteiadcdaleckjaaDoor
open Go.RowKit
set_option linter.unusedVariables false

structure LStr where
  place : ByteArray
  from_ : Int
  long : Int
def LStr.cells (x : LStr) : List Value := [.string x.place, .int .i64 x.from_, .int .i64 x.long]
theorem LStr.cells_len (m : LStr) : m.cells.length = 3 := rfl
def scells (l : List LStr) : List Value := l.flatMap LStr.cells
theorem scells_len (l : List LStr) : (scells l).length = l.length * 3 := flat_len_of LStr.cells_len l
theorem scells_at (l : List LStr) (k r : Nat) (hk : k < l.length) (hr : r < 3) : (scells l)[k * 3 + r]? = l[k].cells[r]? := by
  unfold scells
  rw [flat_at LStr.cells_len (by decide), show (k * 3 + r) / 3 = k by omega, show (k * 3 + r) % 3 = r by omega, List.getElem?_eq_getElem hk]
  rfl
/-- A stretch of the row, read. -/
theorem Reads.str {w : World} {B : Nat} {A : Option Addr} {l : List LStr} (h : Reads w B 3 A l.length (scells l)) {k : Nat} (hk : k < l.length) :
    ∃ ad, A = some ad ∧ ad.block < B ∧ w.cell? (ad.add (k * 3)) = some (.string l[k].place) ∧ w.cell? ⟨(ad.add (k * 3)).block, (ad.add (k * 3)).off + 1, none⟩ = some (.int .i64 l[k].from_) ∧
      w.cell? ⟨(ad.add (k * 3)).block, (ad.add (k * 3)).off + 2, none⟩ = some (.int .i64 l[k].long) := by
  obtain ⟨ad, e, hb, hc⟩ := h.2 (by omega)
  refine ⟨ad, e, hb, ?_, ?_, ?_⟩
  · exact hc _ _ (by rw [show k * 3 = k * 3 + 0 from rfl, scells_at l k 0 hk (by omega)]; rfl)
  · rw [show (⟨(ad.add (k * 3)).block, (ad.add (k * 3)).off + 1, none⟩ : Addr) = (ad.add (k * 3)).add 1 from rfl, add_of_add]
    exact hc _ _ (by rw [scells_at l k 1 hk (by omega)]; rfl)
  · rw [show (⟨(ad.add (k * 3)).block, (ad.add (k * 3)).off + 2, none⟩ : Addr) = (ad.add (k * 3)).add 2 from rfl, add_of_add]
    exact hc _ _ (by rw [scells_at l k 2 hk (by omega)]; rfl)
theorem scells_last (pre : List LStr) (q : ByteArray) (f u v : Int) : (scells (pre ++ [⟨q, f, u⟩])).set (pre.length * 3 + 2) (.int .i64 v) = scells (pre ++ [⟨q, f, v⟩]) := by
  unfold scells
  rw [List.flatMap_append, List.flatMap_append, List.set_append_right]
  · have h : (List.flatMap LStr.cells pre).length = pre.length * 3 := scells_len pre
    rw [h, show pre.length * 3 + 2 - pre.length * 3 = 2 by omega]; rfl
  · have h : (List.flatMap LStr.cells pre).length = pre.length * 3 := scells_len pre
    omega
theorem elemSt : Elem Tryd.prog 40 46 3 32 := Elem.mk_ (z := .agg #[.string ⟨#[]⟩, .int .i64 0, .int .i64 0]) Tryd.underlying40 (by kernel_rfl) rfl (by decide)
def plAt (ps : List ByteArray) (k : Nat) : ByteArray := (((⟨#[]⟩ : ByteArray) :: ps)[k]?).getD ⟨#[]⟩
/-- So much is seen ahead of a place. -/
def frOf (l : List LLeaf) (p : ByteArray) : Nat := (textL (l.take (ahead l p))).length
def fr (l : List LLeaf) (ps : List ByteArray) (k : Nat) : Nat := frOf l (plAt ps k)
def stAt (l : List LLeaf) (ps : List ByteArray) (k : Nat) : LStr := ⟨plAt ps k, fr l ps k, (fr l ps (k + 1) : Int) - fr l ps k⟩
def preL (l : List LLeaf) (ps : List ByteArray) (k : Nat) : List LStr := (List.range k).map (stAt l ps)
theorem preL_len (l : List LLeaf) (ps : List ByteArray) (k : Nat) : (preL l ps k).length = k := by simp [preL]
theorem preL_succ (l : List LLeaf) (ps : List ByteArray) (k : Nat) : preL l ps (k + 1) = preL l ps k ++ [stAt l ps k] := by simp [preL, List.range_succ]
/-- The stretches of a book. -/
def strL (l : List LLeaf) (ps : List ByteArray) : List LStr := preL l ps ps.length ++ [⟨plAt ps ps.length, fr l ps ps.length, ((textL l).length : Int) - fr l ps ps.length⟩]
theorem frOf_le (l : List LLeaf) (p : ByteArray) : frOf l p ≤ l.length := by
  unfold frOf
  have := textL_le (l.take (ahead l p))
  rw [List.length_take] at this
  omega
theorem fr_zero (l : List LLeaf) (ps : List ByteArray) : fr l ps 0 = 0 := by
  unfold fr frOf plAt
  have h : ahead l ⟨#[]⟩ = 0 := by
    unfold ahead
    rw [List.length_eq_zero_iff, List.filter_eq_nil_iff]
    intro x _
    simp [toList_data, Op.bytesLess]
  simp [h, textL]
def AllPost (w : World) (ss : List LStr) (e : Ending) (w' : World) : Prop :=
  ∃ (V : Option Addr) (cv : Nat), e = .returned (.slice V ss.length cv) ∧ Own w' w.heap.size 46 3 V ss.length cv (scells ss) ∧ Below w.heap.size w w'
def AllLoop (w : World) (l : List LLeaf) (ps : List ByteArray) (VP : Option Addr) (cP : Nat) (v i : Value) (wr : World) : Prop :=
  ∃ (k cv g : Nat), Hid (Own wr w.heap.size 9 1 VP ps.length cP (txts ps)) ∧ k ≤ ps.length ∧ i = .int .i64 k ∧ v = .slice (some ⟨g, 0, none⟩) (k + 1) cv ∧ w.heap.size ≤ g ∧ Hid (Own wr w.heap.size 46 3 (some ⟨g, 0, none⟩) (k + 1) cv (scells (preL l ps k ++ [⟨plAt ps k, fr l ps k, 0⟩]))) ∧ Hid (Below w.heap.size w wr)
theorem Reads.takeL {w : World} {B : Nat} {A : Option Addr} {l : List LLeaf} (h : Reads w B 3 A l.length (lcells l)) {i : Nat} (hi : i ≤ l.length) : Reads w B 3 A (l.take i).length (lcells (l.take i)) := by
  refine ⟨lcells_len _, fun h0 => ?_⟩
  rw [List.length_take] at h0
  obtain ⟨ad, e, hb, hc⟩ := h.2 (by omega)
  refine ⟨ad, e, hb, fun j u hu => hc j u ?_⟩
  have hs : lcells l = lcells (l.take i) ++ lcells (l.drop i) := by unfold lcells; rw [← List.flatMap_append, List.take_append_drop]
  have hlt : j < (lcells (l.take i)).length := by
    rcases Nat.lt_or_ge j (lcells (l.take i)).length with h1 | h1
    · exact h1
    · rw [List.getElem?_eq_none h1] at hu; cases hu
  rw [hs, List.getElem?_append_left hlt]
  exact hu
theorem Own.ne_ {w : World} {B B' size size' n n' c c' : Nat} {e e' : TypeId} {A A' : Option Addr} {xs xs' : List Value} (h : Own w B e size A n c xs) (h' : Own w B' e' size' A' n' c' xs') (hne : e ≠ e') : ∀ g ∈ ob A, g ∉ ob A' := by
  intro g hg
  rcases h.2 with ⟨he, _⟩ | ⟨g', cap, cur, he, _, hh, _⟩
  · injection he with he; subst he; simp [ob] at hg
  · injection he with he
    subst he
    have : g = g' := by simpa [ob] using hg
    subst this
    exact Own.blk_ne (t := e) h' hh (fun x => hne x.symm)
theorem Own.setFar {w : World} {B size n c : Nat} {e : TypeId} {A : Option Addr} {xs : List Value} (h : Own w B e size A n c xs) {p : Addr} (hp : p.block ∉ ob A) (u : Value) : Own (w.setCell p u) B e size A n c xs :=
  h.only (S := [p.block]) ((Only.refl _ w).setCell (.inl (by simp)) u) (fun g hg hm => by simp at hm; subst hm; exact hp hg)
theorem Own.storeS {w : World} {B : Nat} {e : TypeId} {g n c size : Nat} {xs : List Value} (h : Own w B e size (some ⟨g, 0, none⟩) n c xs) {k : Nat} (hk : k < n * size) (u : Value) : Own (w.setCell ⟨g, k, none⟩ u) B e size (some ⟨g, 0, none⟩) n c (xs.set k u) := by
  obtain ⟨h1, h2⟩ := h
  refine ⟨by rw [List.length_set]; exact h1, ?_⟩
  rcases h2 with ⟨h2, _⟩ | ⟨g', cap, cur, e1, e2, e3, e4, e5, e6, e7⟩
  · cases h2
  · injection e1 with e1 _ ec
    injection e1 with e1
    injection e1 with e1
    subst e1 ec
    refine .inr ⟨g, c, cur.setIfInBounds k u, rfl, e2, Blk.set_ (t := e) e3 k u, e4, e5, by simpa using e6, ?_⟩
    rw [Array.toList_setIfInBounds, ← e7, List.take_set]
theorem base_al {B : Nat} {w W : World} (h : Below B w W) (hB : B ≤ w.heap.size) (o : Obj) : B ≤ (W.alloc o).heap.size := base_app h hB 0 o
theorem scells_append (a b : List LStr) : scells (a ++ b) = scells a ++ scells b := List.flatMap_append
theorem oneCells_str (l : List LStr) : OneCells (scells l) := by
  intro u hu
  simp only [scells, List.mem_flatMap, LStr.cells, List.mem_cons, List.not_mem_nil, or_false] at hu
  obtain ⟨b, _, h | h | h⟩ := hu <;> subst h <;> rfl
theorem reads_str (W : World) (b : Nat) (hb : W.heap.size = b) (q : ByteArray) (f v : Int) : Reads (W.alloc (.cells #[.string q, .int .i64 f, .int .i64 v] 46)) (W.heap.size + 1) 3 (some ⟨b, 0, none⟩) 1 (scells [⟨q, f, v⟩]) := by
  subst hb
  have h := Reads.row W 46 #[.string q, .int .i64 f, .int .i64 v]
  simpa [scells, LStr.cells] using h
set_option maxRecDepth 100000 in
set_option maxHeartbeats 4000000 in
theorem all_any (w : World) (A : Option Addr) (c : Nat) (l : List LLeaf) (h : Reads w w.heap.size 3 A l.length (lcells l)) (hn : l.length ≤ 300) (hc : l.length ≤ c) (hr : Rising l) (hf : Fit l)
    (A2 : Option Addr) (c2 : Nat) (m : List LMark) (h2 : Reads w w.heap.size 3 A2 m.length (mcells m)) (hm : m.length ≤ 40) :
    Calls Tryd.prog 32 #[.slice A l.length c, .slice A2 m.length c2] w (AllPost w (strL l (places m))) := by
  have HR := Lib.hid h
  have HR2 := Lib.hid h2
  have HP := Lib.hid (fun w (h : Reads w w.heap.size 3 A2 m.length (mcells m)) => placesOf_any w A2 c2 m h hm)
  have HF := Lib.hid (fun w p (h : Reads w w.heap.size 3 A l.length (lcells l)) => find_any w A c l p h (by omega) hr)
  have HT : Hid (∀ w (i : Nat), i ≤ l.length → Reads w w.heap.size 3 A l.length (lcells l) → Calls Tryd.prog 34 #[.slice A i c] w (CheckPost w (.string (textOf (l.take i))))) := fun w i hi h => by
    have := textOf_any w A c (l.take i) (h.takeL hi) (fun x hx => hf x (List.mem_of_mem_take hx)) (by rw [List.length_take]; omega)
    rwa [List.length_take, Nat.min_eq_left hi] at this
  clear h h2 hr hf
  go_enter Tryd.func32, Tryd.ntmps32
  go_wp2_with fail
  have hsz0 : (w.alloc (.cells #[.string ⟨#[]⟩, .int .i64 0, .int .i64 0] 46)).heap.size = w.heap.size + 1 := by simp
  refine (HP.out _ ((HR2.out.alloc (Nat.le_refl _) _).more (by simp))).mono ?_
  rintro e w1 ⟨VP, cP, rfl, hp, hb1⟩
  have HO1 : Hid (Own w1 w.heap.size 46 3 (some ⟨w.heap.size, 0, none⟩) 1 1 (scells (preL l (places m) 0 ++ [⟨plAt (places m) 0, fr l (places m) 0, 0⟩]))) := by
    have h0 : fr l (places m) 0 = 0 := fr_zero l (places m)
    rw [show scells (preL l (places m) 0 ++ [⟨plAt (places m) 0, fr l (places m) 0, 0⟩]) = [.string ⟨#[]⟩, .int .i64 0, .int .i64 0] by rw [h0]; rfl]
    refine Own.below ?_ hb1
    exact ⟨rfl, .inr ⟨w.heap.size, 1, _, rfl, Nat.le_refl _, Blk.new w 46 _, Nat.le_refl _, by unfold maxLen; decide, rfl, rfl⟩⟩
  have HB1 : Hid (Below w.heap.size w w1) := ((Below.refl _ _).alloc (Nat.le_refl _) _).trans (hb1.mono (by simp))
  have HPr : Hid (Own w1 w.heap.size 9 1 VP (places m).length cP (txts (places m))) := Own.mono hp (by simp)
  clear hb1 hp
  have hps : (places m).length ≤ 40 := by have := places_le m m.length (Nat.le_refl _); rw [List.take_length] at this; omega
  generalize places m = ps at *
  go_wp2_with fail
  go_loopw [5, 18] (fun v i wr => AllLoop w l ps VP cP v i wr) (fun _ i _ => ps.length - (intOf i).toNat)
  case atStart => exact ⟨0, 1, w.heap.size, HPr, by omega, rfl, rfl, Nat.le_refl _, HO1, HB1⟩
  case round =>
    obtain ⟨k, cv, g, HS, hk, rfl, rfl, hg, HO, HB⟩ := hrel
    have HRr := Lib.hid (HR.out.below HB.out)
    have hwr : w.heap.size ≤ wr.heap.size := HB.out.size
    by_cases hkn : k < ps.length
    · obtain ⟨adp, u, rfl, _, hu, hcell⟩ := HS.out.reads.at_ hkn
      rw [txts_get hkn] at hu
      injection hu with hu
      subst hu
      have hlt : (k : Int) < (ps.length : Int) := by omega
      have hplk : plAt ps (k + 1) = ps[k] := by unfold plAt; simp [hkn]
      generalize ps[k] = q at hcell hplk
      have HPL := Lib.hid hplk
      clear hplk
      go_wp2_with fail
      refine (HF.out _ q (HRr.out.more hwr)).mono ?_
      rintro e w2 ⟨rfl, hb2⟩
      have ha : ahead l q ≤ l.length := List.length_filter_le _ _
      have HFR : Hid (fr l ps (k + 1) = (textOf (l.take (ahead l q))).size) := by
        show fr l ps (k + 1) = _
        unfold fr frOf textOf; rw [HPL.out, strOf_size]
      generalize hasAt l q = hq0
      generalize ahead l q = i at ha HFR
      have HS2 := Lib.hid (HS.out.below hb2)
      have HO2 := Lib.hid (HO.out.below hb2)
      have HB2 := Lib.hid (HB.out.trans (hb2.mono HB.out.size))
      have HR2 := Lib.hid (HR.out.below HB2.out)
      clear hb2 hcell
      have i0 : (0 : Int) ≤ (i : Int) := by omega
      have i1 : (i : Int) ≤ (c : Int) := by omega
      have i2 : i ≤ c := by omega
      go_wp2_with fail
      refine (HT.out _ i ha (HR2.out.more HB2.out.size)).mono ?_
      rintro e w3 ⟨rfl, hb3⟩
      have hft : fr l ps (k + 1) ≤ 300 := by have := frOf_le l (plAt ps (k + 1)); unfold fr; omega
      have hfk : fr l ps k ≤ 300 := by have := frOf_le l (plAt ps k); unfold fr; omega
      have HS3 := Lib.hid (HS2.out.below hb3)
      have HO3 := Lib.hid (HO2.out.below hb3)
      have HB3 := Lib.hid (HB2.out.trans (hb3.mono HB2.out.size))
      clear hb3
      have HPS := Lib.hid (preL_succ l ps k)
      have hst : stAt l ps k = ⟨plAt ps k, fr l ps k, (fr l ps (k + 1) : Int) - fr l ps k⟩ := rfl
      have HST := Lib.hid hst
      clear hst
      have hpl := preL_len l ps k
      have hat : w3.cell? ⟨g, k * 3 + 1, none⟩ = some (.int .i64 (fr l ps k)) := by
        rw [HO3.out.cellAt (by omega), scells_at _ k 1 (by simp [hpl]) (by omega)]
        simp [hpl, LStr.cells]
      have hc2 : w3.cell? ⟨g, k * 3 + 2, none⟩ = some (.int .i64 0) := by
        rw [HO3.out.cellAt (by omega), scells_at _ k 2 (by simp [hpl]) (by omega)]
        simp [hpl, LStr.cells]
      have hfz : w3.frozen? ⟨g, k * 3 + 2, none⟩ = false := HO3.out.frozenAt _
      have HL := Lib.hid (scells_last (preL l ps k) (plAt ps k) (fr l ps k) 0)
      rw [hpl] at HL
      clear hpl
      generalize preL l ps k = pre at *
      generalize textOf (l.take i) = tx at *
      have htx : tx.size ≤ 300 := by have := HFR.out; omega
      clear hft
      generalize hF0 : fr l ps k = f0 at *
      generalize hqk : plAt ps k = qk at *
      have q1 : IntKind.i64.wrap ((k : Int) + 1 - 1) = (k : Int) := by rw [IntWalk.i64_in _ (by omega)]; omega
      have q2 : IntKind.i64.wrap (((k + 1 : Nat) : Int) - 1) = (k : Int) := by rw [IntWalk.i64_in _ (by omega)]; omega
      have j0 : (0 : Int) ≤ (k : Int) := by omega
      have j1 : (k : Int) < (k : Int) + 1 := by omega
      have hw : IntKind.i64.wrap ((tx.size : Int) - (f0 : Int)) = (tx.size : Int) - (f0 : Int) := by rw [IntWalk.i64_in _ (by omega)]
      have H0 := Lib.hid hF0
      have HQ := Lib.hid hqk
      clear hF0 hqk
      have HO4 : Hid (Own (w3.setCell ⟨g, k * 3 + 2, none⟩ (.int .i64 ((tx.size : Int) - (f0 : Int)))) w.heap.size 46 3 (some ⟨g, 0, none⟩) (k + 1) cv (scells (pre ++ [⟨qk, f0, (tx.size : Int) - (f0 : Int)⟩]))) := by
        show Own _ _ _ _ _ _ _ _
        rw [← HL.out]
        exact HO3.out.storeS (by omega) _
      have HS4 : Hid (Own (w3.setCell ⟨g, k * 3 + 2, none⟩ (.int .i64 ((tx.size : Int) - (f0 : Int)))) w.heap.size 9 1 (some adp) ps.length cP (txts ps)) :=
        HS3.out.setFar (fun hm => Own.ne_ HS3.out HO3.out (by decide) _ hm (by simp [ob])) _
      have HB4 : Hid (Below w.heap.size w (w3.setCell ⟨g, k * 3 + 2, none⟩ (.int .i64 ((tx.size : Int) - (f0 : Int))))) := HB3.out.trans ((Only.setCell (Only.refl [g] w3) (.inl (by simp)) _).below HB3.out.size (by simpa using hg))
      have hF : Fits (k + 1 + 1) 32 := Fits.of_small (by omega) (by decide)
      go_wp2_with (at_builtin; go_loud (refine wpList_app _ (.tmp 47) (.tmp 51) rfl rfl elemSt rfl rfl (HO4.out.alloc _) (reads_str _ _ (by simp [World.setCell]) q tx.size 0) (oneCells_str _) hF (base_al HB4.out (Nat.le_refl _) _) ?_; intro V2 cv2 w5 HO5 HL5 HX5; have HS5 := Lib.hid ((HS4.out.alloc _).only HL5 (fun x hx => Own.ne_ HS4.out HO4.out (by decide) x hx)); have HB5 := Lib.hid ((HB4.out.alloc HB4.out.size _).trans (HL5.below (base_al HB4.out (Nat.le_refl _) _) (fun x hx => (HO4.out.lt x hx).1))); obtain ⟨g2, rfl, hg2, _⟩ := HO5.head (by omega); have HO6 := Lib.hid HO5; clear HO5 HL5 HX5))
      go_roundw
      case rel =>
        refine ⟨k + 1, cv2, g2, HS5, by omega, by go_num, rfl, hg2, Lib.hid ?_, HB5⟩
        rw [HPS.out, HST.out, HFR.out, HPL.out, scells_append]
        exact HO6.out
      case measure => simp [intOf]; omega
    · have hd : decide ((k : Int) < (ps.length : Int)) = false := by simp; omega
      obtain rfl : k = ps.length := by omega
      have hsl : (strL l ps).length = ps.length + 1 := by simp [strL, preL_len]
      have HSL := Lib.hid hsl
      have HSTR : Hid (strL l ps = preL l ps ps.length ++ [⟨plAt ps ps.length, fr l ps ps.length, ((textL l).length : Int) - fr l ps ps.length⟩]) := Lib.hid rfl
      clear hsl
      have HTL : Hid (∀ w, Reads w w.heap.size 3 A l.length (lcells l) → Calls Tryd.prog 34 #[.slice A l.length c] w (CheckPost w (.string (textOf l)))) := fun w h => by
        have := HT.out w l.length (Nat.le_refl _) h
        rwa [List.take_length] at this
      have hfk : fr l ps ps.length ≤ 300 := by have := frOf_le l (plAt ps ps.length); unfold fr; omega
      have hft : (textOf l).size = (textL l).length := strOf_size _
      have hft2 := textL_le l
      rw [← hft] at hft2 HSTR
      clear hft
      have hpl := preL_len l ps ps.length
      have HAT : Hid (∀ w3, Own w3 w.heap.size 46 3 (some ⟨g, 0, none⟩) (ps.length + 1) cv (scells (preL l ps ps.length ++ [⟨plAt ps ps.length, fr l ps ps.length, 0⟩])) → w3.cell? ⟨g, ps.length * 3 + 1, none⟩ = some (.int .i64 (fr l ps ps.length)) ∧ w3.cell? ⟨g, ps.length * 3 + 2, none⟩ = some (.int .i64 0)) := fun w3 h => by
        constructor
        · rw [h.cellAt (by omega), scells_at _ ps.length 1 (by simp [hpl]) (by omega)]
          simp [hpl, LStr.cells]
        · rw [h.cellAt (by omega), scells_at _ ps.length 2 (by simp [hpl]) (by omega)]
          simp [hpl, LStr.cells]
      have HL := Lib.hid (scells_last (preL l ps ps.length) (plAt ps ps.length) (fr l ps ps.length) 0)
      rw [hpl] at HL
      clear hpl
      have ha1 := (HAT.out wr HO.out).1
      clear hkn hk
      generalize preL l ps ps.length = pre at *
      generalize textOf l = tx at *
      generalize fr l ps ps.length = f0 at *
      generalize plAt ps ps.length = qk at *
      generalize strL l ps = RES at *
      generalize ps.length = k at *
      have q1 : IntKind.i64.wrap ((k : Int) + 1 - 1) = (k : Int) := by rw [IntWalk.i64_in _ (by omega)]; omega
      have q2 : IntKind.i64.wrap (((k + 1 : Nat) : Int) - 1) = (k : Int) := by rw [IntWalk.i64_in _ (by omega)]; omega
      have j0 : (0 : Int) ≤ (k : Int) := by omega
      have j1 : (k : Int) < (k : Int) + 1 := by omega
      have hw : IntKind.i64.wrap ((tx.size : Int) - (f0 : Int)) = (tx.size : Int) - (f0 : Int) := by rw [IntWalk.i64_in _ (by omega)]
      have HFIN : Hid (∀ w3, Below wr.heap.size wr w3 → Own (w3.setCell ⟨g, k * 3 + 2, none⟩ (.int .i64 ((tx.size : Int) - (f0 : Int)))) w.heap.size 46 3 (some ⟨g, 0, none⟩) (k + 1) cv (scells (pre ++ [⟨qk, f0, (tx.size : Int) - (f0 : Int)⟩])) ∧ Below w.heap.size w (w3.setCell ⟨g, k * 3 + 2, none⟩ (.int .i64 ((tx.size : Int) - (f0 : Int))))) := fun w3 hb3 => by
        have HB3 := HB.out.trans (hb3.mono HB.out.size)
        refine ⟨?_, HB3.trans ((Only.setCell (Only.refl [g] w3) (.inl (by simp)) _).below HB3.size (by simpa using hg))⟩
        rw [← HL.out]
        exact (HO.out.below hb3).storeS (by omega) _
      go_wp2_with fail
      go_region_law ((go_simp; go_at_call 34; refine (HTL.out _ ((HRr.out.drewN _).more hwr)).mono ?_; rintro e w3 ⟨rfl, hb3'⟩; have hb3 : Below wr.heap.size wr w3 := below_of_drewN hb3'; have hat := (HAT.out w3 (HO.out.below hb3)).1; have hc2 := (HAT.out w3 (HO.out.below hb3)).2; have hfz : w3.frozen? ⟨g, k * 3 + 2, none⟩ = false := (HO.out.below hb3).frozenAt _))
      all_goals
        go_wp2_with fail
        go_ret
        obtain ⟨r1, r2⟩ := HFIN.out w3 hb3
        refine ⟨some ⟨g, 0, none⟩, cv, by rw [HSL.out]; rfl, ?_, ?_⟩
        · rw [HSL.out, HSTR.out]; exact r1
        · exact r2
end Go.Proofs.YteiadcdaleckjaaDoor

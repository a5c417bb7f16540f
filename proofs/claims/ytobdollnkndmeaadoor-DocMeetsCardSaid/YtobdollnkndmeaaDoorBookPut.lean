/- slices.Clone of leafs, book.put, book.ready, walked. Conditions: a book that is not too long. -/
import Derived.Test.YtobdollnkndmeaaDoorBookFind
import Derived.Test.YtobdollnkndmeaaDoorInsLeaf
namespace Go.Proofs.YtobdollnkndmeaaDoor
open Go.RowKit
set_option linter.unusedVariables false
def ClonePost (w : World) (e0 : TypeId) (size n : Nat) (xs : List Value) (e : Ending) (w' : World) : Prop := ∃ A' c', e = .returned (.slice A' n c') ∧ Own w' w.heap.size e0 size A' n c' xs ∧ Below w.heap.size w w'
set_option maxRecDepth 100000 in
theorem cloneL (w : World) (B : Nat) (A : Option Addr) (n c : Nat) (xs : List Value) (hr : Reads w B 3 A n xs) (h1 : OneCells xs) (hf : Fits n 32) (hB : B ≤ w.heap.size) :
    Calls Tryd.prog 21 #[.slice A n c] w (ClonePost w 58 3 n xs) := by
  have HF : Fits (0 + n) 32 := by simpa using hf
  have HR := hr.alloc hB (.cells #[] 58)
  cases A with
  | none =>
    have he := Lib.run_eql_slice_nil (P := Tryd.prog) w 38 58 none n c 0 0 Tryd.underlying38
    go_enter Tryd.func21, Tryd.ntmps21
    go_wp2
    go_ret
    have hn : n = 0 := by
      rcases Nat.eq_zero_or_pos n with h | h
      · exact h
      · obtain ⟨_, h, _⟩ := hr.2 h; cases h
    subst hn
    have hx : xs = [] := List.eq_nil_of_length_eq_zero (by simpa using hr.1)
    subst hx
    exact ⟨none, 0, rfl, Own.nil _ _ _ _, Below.refl _ _⟩
  | some ad =>
    have heS := Lib.run_eql_slice_nil (P := Tryd.prog) w 38 58 (some ad) n c 0 0 Tryd.underlying38
    go_enter Tryd.func21, Tryd.ntmps21
    go_wp2_with (at_builtin; refine wpList_app _ (.tmp 5) (.tmp 6) rfl rfl InsLeaf.elem rfl rfl (Own.made w 58 w.heap.size (Nat.le_refl _) 3) HR h1 HF (by simp) ?_; intro A' c' w1 HO HL HB)
    go_ret
    refine ⟨A', c', rfl, by simpa using HO, ?_⟩
    exact ((Below.refl _ _).alloc (Nat.le_refl _) _).trans (HL.below (by simp) (by simp [ob]))

/-- A book with one leaf more. -/
def bookPut (l : List LLeaf) (i : Nat) (x : LLeaf) : List LLeaf := l.take i ++ x :: l.drop i
theorem lcells_take (l : List LLeaf) (i : Nat) : (lcells l).take (i * 3) = lcells (l.take i) := by
  induction l generalizing i with
  | nil => simp [lcells]
  | cons x l ih =>
    cases i with
    | zero => simp [lcells]
    | succ i =>
      show (x.cells ++ lcells l).take ((i + 1) * 3) = x.cells ++ lcells (l.take i)
      rw [← ih, List.take_append, List.take_of_length_le (by simp [LLeaf.cells]; omega), show (i + 1) * 3 - x.cells.length = i * 3 by simp [LLeaf.cells]; omega]
theorem lcells_drop (l : List LLeaf) (i : Nat) : (lcells l).drop (i * 3) = lcells (l.drop i) := by
  induction l generalizing i with
  | nil => simp [lcells]
  | cons x l ih =>
    cases i with
    | zero => simp [lcells]
    | succ i =>
      show (x.cells ++ lcells l).drop ((i + 1) * 3) = lcells (l.drop i)
      rw [← ih, List.drop_append, List.drop_of_length_le (by simp [LLeaf.cells]; omega), show (i + 1) * 3 - x.cells.length = i * 3 by simp [LLeaf.cells]; omega, List.nil_append]
theorem lcells_put (l : List LLeaf) (i : Nat) (x : LLeaf) : (lcells l).take (i * 3) ++ x.cells ++ (lcells l).drop (i * 3) = lcells (bookPut l i x) := by
  rw [lcells_take, lcells_drop]; simp [bookPut, lcells]
theorem bookPut_len (l : List LLeaf) (i : Nat) (x : LLeaf) (hi : i ≤ l.length) : (bookPut l i x).length = l.length + 1 := by simp [bookPut]; omega

/-- A book and an error are given back; the book is of the call's own. -/
def LeafsPost (w : World) (l : List LLeaf) (k : Int) (e : Ending) (w' : World) : Prop :=
  ∃ V c, e = .returned (.tuple #[.slice V l.length c, errV k]) ∧ Own w' w.heap.size 58 3 V l.length c (lcells l) ∧ Below w.heap.size w w'
theorem leafs_none {w w' : World} {k : Int} (hb : Below w.heap.size w w') : LeafsPost w [] k (.returned (.tuple #[.slice none 0 0, errV k])) w' := ⟨none, 0, rfl, Own.nil _ _ _ _, hb⟩
theorem blk_new_at {w : World} {k : Nat} {t : TypeId} {cs : Array Value} (h : w.heap.size = k) : Blk (w.alloc (.cells cs t)) k t cs := h ▸ Blk.new w t cs
def putErr (l : List LLeaf) : Int := if 300 ≤ l.length then 4 else 0
def putRes (l : List LLeaf) (i : Nat) (x : LLeaf) : List LLeaf := if 300 ≤ l.length then [] else bookPut l i x
set_option maxRecDepth 100000 in
set_option maxHeartbeats 4000000 in
theorem put_any (w : World) (A : Option Addr) (c : Nat) (l : List LLeaf) (i : Nat) (x : LLeaf) (h : Reads w w.heap.size 3 A l.length (lcells l)) (hn : l.length ≤ 300) (hi : i ≤ l.length) :
    Calls Tryd.prog 42 #[.slice A l.length c, .int .i64 i, .agg #[.string x.place, .int .i64 x.letter, .bool x.struck]] w (LeafsPost w (putRes l i x) (putErr l)) := by
  obtain ⟨p, n, s⟩ := x
  by_cases hf : 300 ≤ l.length
  · have HE : Hid (putErr l = 4 ∧ putRes l i ⟨p, n, s⟩ = []) := ⟨if_pos hf, if_pos hf⟩
    go_enter Tryd.func42, Tryd.ntmps42
    go_wp2_with fail
    go_ret2
    rw [HE.out.1, HE.out.2]
    exact leafs_none ((Below.refl _ _).alloc (Nat.le_refl _) _)
  · have HE : Hid (putErr l = 0 ∧ putRes l i ⟨p, n, s⟩ = bookPut l i ⟨p, n, s⟩) := ⟨if_neg hf, if_neg hf⟩
    have HP : Hid ((bookPut l i ⟨p, n, s⟩).length = l.length + 1) := bookPut_len _ _ _ hi
    have HPC := Lib.hid (lcells_put l i ⟨p, n, s⟩)
    have HR : Hid (∀ W, Below w.heap.size w W → Reads W w.heap.size 3 A l.length (lcells l)) := fun W hb => h.below hb
    have HCL := Lib.hid (fun W (hb : Below w.heap.size w W) c => cloneL W w.heap.size A l.length c (lcells l) (HR.out W hb) (oneCells_l l) (Fits.of_small (by omega) (by decide)) hb.size)
    have HIN := Lib.hid (fun W c vb A (hO : Own W w.heap.size 58 3 A l.length c (lcells l)) (hV : Blk W vb 58 #[.string p, .int .i64 n, .bool s]) (hne : vb ∉ ob A) (hB : w.heap.size ≤ W.heap.size) =>
      InsLeaf.any W w.heap.size c l.length vb (lcells l) (LLeaf.cells ⟨p, n, s⟩) i A hO hV rfl hne (oneCells_l l) (by intro u hu; simp [LLeaf.cells] at hu; rcases hu with rfl | rfl | rfl <;> rfl) (by omega) hB hi)
    have c0 : (w.alloc (.cells #[.string p, .int .i64 n, .bool s] 58)).cell? ⟨w.heap.size, 0, none⟩ = some (.string p) := by rw [(Blk.new w _ _).cell]; rfl
    have c1 : (w.alloc (.cells #[.string p, .int .i64 n, .bool s] 58)).cell? ⟨w.heap.size, 1, none⟩ = some (.int .i64 n) := by rw [(Blk.new w _ _).cell]; rfl
    have c2 : (w.alloc (.cells #[.string p, .int .i64 n, .bool s] 58)).cell? ⟨w.heap.size, 2, none⟩ = some (.bool s) := by rw [(Blk.new w _ _).cell]; rfl
    have hd : ¬ (300 ≤ l.length) := hf
    clear h
    go_enter Tryd.func42, Tryd.ntmps42
    go_wp2_with fail
    go_region_held3 (fun w' => w'.cell? ⟨w.heap.size, 0, none⟩ = some (.string p) ∧ w'.cell? ⟨w.heap.size, 1, none⟩ = some (.int .i64 n) ∧ w'.cell? ⟨w.heap.size, 2, none⟩ = some (.bool s))
      (first | go_keep | (refine ⟨?_, ?_, ?_⟩ <;> assumption))
      (first
        | (go_at_call 21; refine (HCL.out _ (by first | exact ((Below.refl _ _).alloc (Nat.le_refl _) _).drew | exact (((Below.refl _ _).alloc (Nat.le_refl _) _).alloc (by simp) _).drew) _).mono ?_; rintro e1 w1 ⟨V, cV, rfl, hO, hb⟩; have k0 : w1.cell? ⟨w.heap.size, 0, none⟩ = some (.string p) := ((hb.cell (by simp <;> omega)).trans (by first | exact c0 | (exact (World.cell?_alloc_lt _ _ _ (by simp <;> omega)).trans c0))); have k1 : w1.cell? ⟨w.heap.size, 1, none⟩ = some (.int .i64 n) := ((hb.cell (by simp <;> omega)).trans (by first | exact c1 | (exact (World.cell?_alloc_lt _ _ _ (by simp <;> omega)).trans c1))); have k2 : w1.cell? ⟨w.heap.size, 2, none⟩ = some (.bool s) := ((hb.cell (by simp <;> omega)).trans (by first | exact c2 | (exact (World.cell?_alloc_lt _ _ _ (by simp <;> omega)).trans c2))); have hz : w.heap.size < w1.heap.size := (by have := hb.size; simp at this; omega); have HNV : Hid (∀ g ∈ ob V, w.heap.size < g) := (fun g hg => by have := (hO.lt g hg).1; simp at this; omega); have HO := Lib.hid hO; have HB := Lib.hid hb; have HBW : Hid (Below w.heap.size w w1) := (by first | exact (((Below.refl _ _).alloc (Nat.le_refl _) _).drew).trans (hb.mono (by simp <;> omega)) | exact ((((Below.refl _ _).alloc (Nat.le_refl _) _).alloc (by simp) _).drew).trans (hb.mono (by simp <;> omega))); clear hO hb)
        | (go_at_call 63; refine (HIN.out _ cV _ V (by first | exact HO.out.mono (by simp <;> omega) | exact (HO.out.mono (by simp <;> omega)).alloc _) (by first | exact Blk.new _ _ _ | exact (blk_new_at (by simp)).drew.below HB.out (by simp <;> omega)) (by intro hm; have h1 := (HO.out.lt _ hm).1; have h2 := (HO.out.lt _ hm).2; first | omega | (simp at h1; omega)) (by first | exact Nat.le_refl _ | omega | (simp <;> omega))).mono ?_; rintro e2 w2 ⟨V2, cV2, rfl, hO2, hl2, hg2⟩; have j0 : w2.cell? ⟨w.heap.size, 0, none⟩ = some (.string p) := ((hl2.cell (by simp <;> omega) (fun hm => by have := HNV.out _ hm; simp at this)).trans (by first | exact k0 | (exact (World.cell?_alloc_lt _ _ _ (by simp <;> omega)).trans k0))); have j1 : w2.cell? ⟨w.heap.size, 1, none⟩ = some (.int .i64 n) := ((hl2.cell (by simp <;> omega) (fun hm => by have := HNV.out _ hm; simp at this)).trans (by first | exact k1 | (exact (World.cell?_alloc_lt _ _ _ (by simp <;> omega)).trans k1))); have j2 : w2.cell? ⟨w.heap.size, 2, none⟩ = some (.bool s) := ((hl2.cell (by simp <;> omega) (fun hm => by have := HNV.out _ hm; simp at this)).trans (by first | exact k2 | (exact (World.cell?_alloc_lt _ _ _ (by simp <;> omega)).trans k2)))))
    all_goals
      go_wp2_with fail
      go_ret2
      rw [HE.out.1, HE.out.2]
      refine ⟨V2, cV2, by rw [HP.out]; rfl, by rw [HP.out, ← HPC.out]; exact hO2, ?_⟩
      have hb2 := hl2.below (B := w.heap.size) (by first | omega | (simp <;> omega)) (fun g hg => by have := HNV.out g hg; omega)
      first
        | exact HBW.out.trans hb2
        | exact (HBW.out.alloc (by omega) _).trans hb2
end Go.Proofs.YtobdollnkndmeaaDoor

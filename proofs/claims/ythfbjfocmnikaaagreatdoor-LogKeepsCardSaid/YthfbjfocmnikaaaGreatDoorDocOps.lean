/- 2 texts in one: each says ahead of itself what is proved, and its conditions. -/
import Derived.Test.YthfbjfocmnikaaaGreatDoorBookAt
import Derived.Test.YthfbjfocmnikaaaGreatDoorDocApply
/- doc.New, Book, Marks, Known, Text, walked. Conditions: the document is right. -/
namespace Go.Proofs.YthfbjfocmnikaaaGreatDoor
open Go.RowKit
set_option linter.unusedVariables false
/-- A new document, all of it newly laid. -/
def NewPost (w : World) (e : Ending) (w' : World) : Prop := ∃ b S D, e = .returned (.pointer (some ⟨b, 0, none⟩)) ∧ DocIs w' w.heap.size S b LDoc.new D ∧ Below w.heap.size w w'
theorem new_is (w : World) : DocIs (((w.alloc (.cells zeros8 3)).alloc (.map #[] 0)).alloc (.cells #[.slice none 0 0, .slice none 0 0, .slice (some ⟨w.heap.size, 0, none⟩) 8 8, .slice none 0 0, .map (some (w.heap.size + 1))] 127)) w.heap.size
    [w.heap.size, w.heap.size + 1, w.heap.size + 1 + 1] (w.heap.size + 1 + 1) LDoc.new ⟨none, 0, none, 0, some ⟨w.heap.size, 0, none⟩, 8, none, 0, w.heap.size + 1, []⟩ := by
  have hz : ((w.alloc (.cells zeros8 3)).alloc (.map #[] 0)).heap.size = w.heap.size + 1 + 1 := by simp
  have hm : ((w.alloc (.cells zeros8 3)).alloc (.map #[] 0)).heap[w.heap.size + 1]? = some (.map #[] 0) := by
    have := heap_alloc_new (w.alloc (.cells zeros8 3)) (.map #[] 0)
    simpa using this
  refine ⟨?_, Own.nil _ _ _ _, Own.nil _ _ _ _, ?_, Own.nil _ _ _ _, rfl, by simp, ?_, by simp [ob], by simp [ob], by simp [ob], by simp [ob], by simp, by simp, by simp, ?_⟩
  · have := Blk.new ((w.alloc (.cells zeros8 3)).alloc (.map #[] 0)) 127 #[.slice none 0 0, .slice none 0 0, .slice (some ⟨w.heap.size, 0, none⟩) 8 8, .slice none 0 0, .map (some (w.heap.size + 1))]
    rw [hz] at this
    exact this
  · have h0 : Own (w.alloc (.cells zeros8 3)) w.heap.size 3 1 (some ⟨w.heap.size, 0, none⟩) 8 8 (ints [0, 0, 0, 0, 0, 0, 0, 0]) :=
      ⟨rfl, .inr ⟨w.heap.size, 8, zeros8, rfl, Nat.le_refl _, heap_alloc_new w _, Nat.le_refl _, by decide, rfl, rfl⟩⟩
    exact (h0.alloc _).alloc _
  · refine ⟨#[], 0, ?_, rfl⟩
    exact (Below.heap_alloc _ _ (w.heap.size + 1) (by rw [hz]; omega)).trans hm
  · intro g hg
    simp only [List.mem_cons, List.not_mem_nil, or_false] at hg
    simp
    omega
set_option maxRecDepth 100000 in
theorem new_doc (w : World) : Calls Tryz.prog 35 #[] w (NewPost w) := by
  have hmm : ∀ t w, (Instr.makeMap t none).run Tryz.prog w = .ok (.map (some w.heap.size)) (w.alloc (.map #[] 0)) := fun _ _ => rfl
  have hmk : (Instr.makeSlice 23 (.int .i64 8) (.int .i64 8)).run Tryz.prog w = .ok (.slice (some ⟨w.heap.size, 0, none⟩) 8 8) (w.alloc (.cells zeros8 3)) := by
    have e : madeCells #[Value.int .i64 0] 8 = zeros8 := by apply Array.ext'; simp [madeCells, zeros8, Nat.mod_one, List.range, List.range.loop]
    rw [← e]
    exact run_make_row' (P := Tryz.prog) 23 3 (.int .i64 0) 8 Tryz.underlying23 (by kernel_rfl) rfl .i64 .i64 8 (by omega) (by omega) w
  have HN := Lib.hid (new_is w)
  have HB : Hid (Below w.heap.size w (((w.alloc (.cells zeros8 3)).alloc (.map #[] 0)).alloc (.cells #[.slice none 0 0, .slice none 0 0, .slice (some ⟨w.heap.size, 0, none⟩) 8 8, .slice none 0 0, .map (some (w.heap.size + 1))] 127))) :=
    (((Below.refl _ _).alloc (Nat.le_refl _) _).alloc (by simp) _).alloc (by simp; omega) _
  generalize zeros8 = z8 at *
  go_enter Tryz.func35, Tryz.ntmps35
  go_wp2_with fail
  go_ret
  exact ⟨_, _, _, rfl, HN.out, HB.out⟩
theorem fit_ok {l : List LLeaf} (h : BookOk l) : Fit l := fun x hx hs => by
  have h1 := (h.leafs x hx).letter
  by_cases h2 : x.letter = 0
  · omega
  · have := h1 h2; omega
section
variable (w : World) (B : Nat) (S : List Nat) (b : Nat) (st : LDoc) (D : DLay) (h : DocIs w B S b st D) (ok : st.Ok)
def RowPost (w : World) (e : TypeId) (size n : Nat) (xs : List Value) (r : Ending) (w' : World) : Prop := ∃ V c, r = .returned (.slice V n c) ∧ Own w' w.heap.size e size V n c xs ∧ Below w.heap.size w w'
include h ok
set_option maxRecDepth 100000 in
theorem book_doc : Calls Tryz.prog 23 #[.pointer (some ⟨b, 0, none⟩)] w (RowPost w 115 3 st.book.length (lcells st.book)) := by
  have HC := Lib.hid (cloneL w w.heap.size D.a1 st.book.length D.c1 (lcells st.book) h.book.reads (oneCells_l st.book) (Fits.of_small (by have := ok.book.few; omega) (by decide)) (Nat.le_refl _))
  have c0 : w.cell? ⟨b, 0, none⟩ = some (.slice D.a1 st.book.length D.c1) := by rw [h.blk.cell]; rfl
  clear h ok
  go_enter Tryz.func23, Tryz.ntmps23
  go_wp2_with fail
  refine HC.out.mono ?_
  rintro e w1 ⟨V, c, rfl, hO, hb⟩
  have HO := Lib.hid hO
  have HB := Lib.hid hb
  clear hO hb
  go_wp2_with fail
  go_ret
  exact ⟨V, c, rfl, HO.out, HB.out⟩
set_option maxRecDepth 100000 in
theorem marks_doc : Calls Tryz.prog 25 #[.pointer (some ⟨b, 0, none⟩)] w (RowPost w 136 3 st.marks.length (mcells st.marks)) := by
  have HC := Lib.hid (cloneM w w.heap.size D.a2 st.marks.length D.c2 (mcells st.marks) h.marks.reads (oneCells_m st.marks) (Fits.of_small (by have := ok.marks.few; omega) (by decide)) (Nat.le_refl _))
  have c0 : w.cell? ⟨b, 1, none⟩ = some (.slice D.a2 st.marks.length D.c2) := by rw [h.blk.cell]; rfl
  clear h ok
  go_enter Tryz.func25, Tryz.ntmps25
  go_wp2_with fail
  refine HC.out.mono ?_
  rintro e w1 ⟨V, c, rfl, hO, hb⟩
  have HO := Lib.hid hO
  have HB := Lib.hid hb
  clear hO hb
  go_wp2_with fail
  go_ret
  exact ⟨V, c, rfl, HO.out, HB.out⟩
set_option maxRecDepth 100000 in
theorem text_doc : Calls Tryz.prog 14 #[.pointer (some ⟨b, 0, none⟩)] w (CheckPost w (.string (textOf st.book))) := by
  have HC := Lib.hid (textOf_any w D.a1 D.c1 st.book h.book.reads (fit_ok ok.book) (by have := ok.book.few; omega))
  have c0 : w.cell? ⟨b, 0, none⟩ = some (.slice D.a1 st.book.length D.c1) := by rw [h.blk.cell]; rfl
  clear h ok
  go_enter Tryz.func14, Tryz.ntmps14
  go_wp2_with fail
  refine HC.out.mono ?_
  rintro e w1 ⟨rfl, hb⟩
  have HB := Lib.hid hb
  clear hb
  go_wp2_with fail
  go_ret
  exact ⟨rfl, HB.out⟩
end
end Go.Proofs.YthfbjfocmnikaaaGreatDoor
/- (*doc.Doc).Ops, walked: a copy, its own down to the dots. Conditions: the document is right. -/
namespace Go.Proofs.YthfbjfocmnikaaaGreatDoor
open Go.RowKit
set_option linter.unusedVariables false
theorem ocells_set (l : List OpAt) (k : Nat) (hk : k < l.length) (V : Option Addr) (c : Nat) : (ocells l).set (k * 6 + 5) (.slice V l[k].op.seen.length c) = ocells (l.set k ⟨l[k].op, V, c⟩) := by
  apply List.ext_getElem?
  intro i
  by_cases hi : i < l.length * 6
  · have hd : i / 6 < l.length := by omega
    have hi2 : i = i / 6 * 6 + i % 6 := by omega
    rw [List.getElem?_set]
    have hl2 : (l.set k ⟨l[k].op, V, c⟩).length = l.length := by simp
    have e2 := ocells_at (l.set k ⟨l[k].op, V, c⟩) (i / 6) (i % 6) (by rw [hl2]; exact hd) (by omega)
    rw [← hi2] at e2
    have e1 := ocells_at l (i / 6) (i % 6) hd (by omega)
    rw [← hi2] at e1
    rw [e2, List.getElem_set]
    by_cases hk2 : k = i / 6
    · subst hk2
      rw [if_pos rfl]
      by_cases hm : i / 6 * 6 + 5 = i
      · rw [if_pos hm, if_pos (by rw [ocells_len]; omega), show i % 6 = 5 by omega]
        rfl
      · rw [if_neg hm, e1]
        have : i % 6 = 0 ∨ i % 6 = 1 ∨ i % 6 = 2 ∨ i % 6 = 3 ∨ i % 6 = 4 := by omega
        rcases this with h | h | h | h | h <;> rw [h] <;> rfl
    · rw [if_neg hk2, if_neg (by omega), e1]
  · rw [List.getElem?_eq_none (by rw [List.length_set, ocells_len]; omega), List.getElem?_eq_none (by rw [ocells_len]; simp; omega)]
/-- A list of ops that is the call's own, with the dots of each. -/
structure OwnOps (w : World) (B : Nat) (V : Option Addr) (c : Nat) (zs : List OpAt) : Prop where
  row : Own w B 30 6 V zs.length c (ocells zs)
  seen : ∀ z ∈ zs, Own w B 27 2 z.at_ z.op.seen.length z.cap (dcells z.op.seen)
/-- Midway through the copy. -/
structure OpsMid (w : World) (V : Option Addr) (c : Nat) (ys zs : List OpAt) (k : Nat) (wr : World) : Prop where
  below : Below w.heap.size w wr
  row : Own wr w.heap.size 30 6 V zs.length c (ocells zs)
  len : zs.length = ys.length
  same : zs.map OpAt.op = ys.map OpAt.op
  done : ∀ j (hj : j < zs.length), j < k → Own wr w.heap.size 27 2 zs[j].at_ zs[j].op.seen.length zs[j].cap (dcells zs[j].op.seen)
  todo : ∀ j (hj : j < zs.length) (hj2 : j < ys.length), k ≤ j → zs[j] = ys[j]
theorem OpsMid.step {w wr w3 : World} {g c : Nat} {ys zs : List OpAt} {k : Nat} (h : OpsMid w (some ⟨g, 0, none⟩) c ys zs k wr) (hk : k < ys.length) (hb : Below wr.heap.size wr w3) {V2 : Option Addr} {c2 : Nat} (hk2 : k < zs.length)
    (hO : Own w3 wr.heap.size 27 2 V2 zs[k].op.seen.length c2 (dcells zs[k].op.seen)) :
    OpsMid w (some ⟨g, 0, none⟩) c ys (zs.set k ⟨zs[k].op, V2, c2⟩) (k + 1) (w3.setCell ⟨g, k * 6 + 5, none⟩ (.slice V2 zs[k].op.seen.length c2)) := by
  have hsz := h.below.size
  have hg := h.row.lt g (by simp [ob])
  have hrow3 := h.row.below hb
  have ho : Only [g] w3 (w3.setCell ⟨g, k * 6 + 5, none⟩ (.slice V2 zs[k].op.seen.length c2)) := (Only.refl _ _).setCell (.inl (by simp)) _
  have hbk : ∃ cs, Blk w3 g 30 cs := by
    rcases hrow3.2 with ⟨h2, _⟩ | ⟨g', cap, cur, he, _, hh, _⟩
    · cases h2
    · injection he with he
      injection he with he
      injection he with he
      subst he
      exact ⟨cur, hh⟩
  obtain ⟨cs, hbk⟩ := hbk
  refine ⟨?_, ?_, by simpa using h.len, ?_, ?_, ?_⟩
  · have h1 := h.below.trans (hb.mono hsz)
    exact h1.trans (ho.below h1.size (by simpa using hg.1))
  · have := hrow3.storeN (k := k * 6 + 5) (by omega) (.slice V2 zs[k].op.seen.length c2)
    rw [ocells_set zs k hk2 V2 c2] at this
    simpa using this
  · rw [← h.same, List.map_set]
    apply List.ext_getElem?
    intro i
    rw [List.getElem?_set]
    by_cases hi : k = i
    · subst hi; simp [hk2]
    · rw [if_neg hi]
  · intro j hj hjk
    have hj' : j < zs.length := by simpa using hj
    by_cases hkj : k = j
    · subst hkj
      have e : (zs.set k ⟨zs[k].op, V2, c2⟩)[k] = ⟨zs[k].op, V2, c2⟩ := by simp
      rw [e]
      exact (hO.only ho (fun x hx hm => hO.blk_ne hbk (by decide) (by simp at hm; exact hm ▸ hx))).mono hsz
    · have e : (zs.set k ⟨zs[k].op, V2, c2⟩)[j] = zs[j] := by rw [List.getElem_set, if_neg hkj]
      rw [e]
      have h1 := (h.done j hj' (by omega)).below hb
      exact h1.only ho (fun x hx hm => h1.blk_ne hbk (by decide) (by simp at hm; exact hm ▸ hx))
  · intro j hj hj2 hkj
    have e : (zs.set k ⟨zs[k].op, V2, c2⟩)[j] = zs[j]'(by simpa using hj) := by rw [List.getElem_set, if_neg (by omega)]
    rw [e]
    exact h.todo j (by simpa using hj) hj2 (by omega)
end Go.Proofs.YthfbjfocmnikaaaGreatDoor

/- 2 texts in one: each says ahead of itself what is proved, and its conditions. -/
import Derived.Test.YthfbjfocmnikaaaGreatDoorBook
import Derived.Test.YthfbjfocmnikaaaGreatDoorBookAt
import Derived.Test.YthfbjfocmnikaaaGreatDoorDocApply
import Derived.Test.YthfbjfocmnikaaaGreatDoorSmall
/- doc.New, Book, Marks, Known, Text, walked. Conditions: the document is right. -/
namespace Go.Proofs.YthfbjfocmnikaaaGreatDoor
open Go.RowKit
set_option linter.unusedVariables false
/-- A new document, all of it newly laid. -/
def NewPost (w : World) (e : Ending) (w' : World) : Prop := ∃ b S D, e = .returned (.pointer (some ⟨b, 0, none⟩)) ∧ DocIs w' w.heap.size S b LDoc.new D ∧ Below w.heap.size w w'
theorem new_is (w : World) : DocIs (((w.alloc (.cells zeros8 3)).alloc (.map #[] 0)).alloc (.cells #[.slice none 0 0, .slice none 0 0, .slice (some ⟨w.heap.size, 0, none⟩) 8 8, .slice none 0 0, .map (some (w.heap.size + 1))] 127)) w.heap.size
    [w.heap.size, w.heap.size + 1, w.heap.size + 1 + 1] (w.heap.size + 1 + 1) LDoc.new ⟨none, 0, none, 0, some ⟨w.heap.size, 0, none⟩, 8, none, 0, w.heap.size + 1, []⟩ := by
  have hz : ((w.alloc (.cells zeros8 3)).alloc (.map #[] 0)).heap.size = w.heap.size + 1 + 1 := by simp
  have hm : ((w.alloc (.cells zeros8 3)).alloc (.map #[] 0)).heap[w.heap.size + 1]? = some (.map #[] 0) := by
    have := heap_alloc_new (w.alloc (.cells zeros8 3)) (.map #[] 0)
    simpa using this
  refine ⟨?_, Own.nil _ _ _ _, Own.nil _ _ _ _, ?_, Own.nil _ _ _ _, rfl, by simp, ?_, by simp [ob], by simp [ob], by simp [ob], by simp [ob], by simp, by simp, by simp, ?_⟩
  · have := Blk.new ((w.alloc (.cells zeros8 3)).alloc (.map #[] 0)) 127 #[.slice none 0 0, .slice none 0 0, .slice (some ⟨w.heap.size, 0, none⟩) 8 8, .slice none 0 0, .map (some (w.heap.size + 1))]
    rw [hz] at this
    exact this
  · have h0 : Own (w.alloc (.cells zeros8 3)) w.heap.size 3 1 (some ⟨w.heap.size, 0, none⟩) 8 8 (ints [0, 0, 0, 0, 0, 0, 0, 0]) :=
      ⟨rfl, .inr ⟨w.heap.size, 8, zeros8, rfl, Nat.le_refl _, heap_alloc_new w _, Nat.le_refl _, by decide, rfl, rfl⟩⟩
    exact (h0.alloc _).alloc _
  · refine ⟨#[], 0, ?_, rfl⟩
    exact (Below.heap_alloc _ _ (w.heap.size + 1) (by rw [hz]; omega)).trans hm
  · intro g hg
    simp only [List.mem_cons, List.not_mem_nil, or_false] at hg
    simp
    omega
set_option maxRecDepth 100000 in
theorem new_doc (w : World) : Calls Tryz.prog 35 #[] w (NewPost w) := by
  have hmm : ∀ t w, (Instr.makeMap t none).run Tryz.prog w = .ok (.map (some w.heap.size)) (w.alloc (.map #[] 0)) := fun _ _ => rfl
  have hmk : (Instr.makeSlice 23 (.int .i64 8) (.int .i64 8)).run Tryz.prog w = .ok (.slice (some ⟨w.heap.size, 0, none⟩) 8 8) (w.alloc (.cells zeros8 3)) := by
    have e : madeCells #[Value.int .i64 0] 8 = zeros8 := by apply Array.ext'; simp [madeCells, zeros8, Nat.mod_one, List.range, List.range.loop]
    rw [← e]
    exact run_make_row' (P := Tryz.prog) 23 3 (.int .i64 0) 8 Tryz.underlying23 (by kernel_rfl) rfl .i64 .i64 8 (by omega) (by omega) w
  have HN := Lib.hid (new_is w)
  have HB : Hid (Below w.heap.size w (((w.alloc (.cells zeros8 3)).alloc (.map #[] 0)).alloc (.cells #[.slice none 0 0, .slice none 0 0, .slice (some ⟨w.heap.size, 0, none⟩) 8 8, .slice none 0 0, .map (some (w.heap.size + 1))] 127))) :=
    (((Below.refl _ _).alloc (Nat.le_refl _) _).alloc (by simp) _).alloc (by simp; omega) _
  generalize zeros8 = z8 at *
  go_enter Tryz.func35, Tryz.ntmps35
  go_wp2_with fail
  go_ret
  exact ⟨_, _, _, rfl, HN.out, HB.out⟩
theorem fit_ok {l : List LLeaf} (h : BookOk l) : Fit l := fun x hx hs => by
  have h1 := (h.leafs x hx).letter
  by_cases h2 : x.letter = 0
  · omega
  · have := h1 h2; omega
section
variable (w : World) (B : Nat) (S : List Nat) (b : Nat) (st : LDoc) (D : DLay) (h : DocIs w B S b st D) (ok : st.Ok)
def RowPost (w : World) (e : TypeId) (size n : Nat) (xs : List Value) (r : Ending) (w' : World) : Prop := ∃ V c, r = .returned (.slice V n c) ∧ Own w' w.heap.size e size V n c xs ∧ Below w.heap.size w w'
include h ok
set_option maxRecDepth 100000 in
theorem book_doc : Calls Tryz.prog 23 #[.pointer (some ⟨b, 0, none⟩)] w (RowPost w 115 3 st.book.length (lcells st.book)) := by
  have HC := Lib.hid (cloneL w w.heap.size D.a1 st.book.length D.c1 (lcells st.book) h.book.reads (oneCells_l st.book) (Fits.of_small (by have := ok.book.few; omega) (by decide)) (Nat.le_refl _))
  have c0 : w.cell? ⟨b, 0, none⟩ = some (.slice D.a1 st.book.length D.c1) := by rw [h.blk.cell]; rfl
  clear h ok
  go_enter Tryz.func23, Tryz.ntmps23
  go_wp2_with fail
  refine HC.out.mono ?_
  rintro e w1 ⟨V, c, rfl, hO, hb⟩
  have HO := Lib.hid hO
  have HB := Lib.hid hb
  clear hO hb
  go_wp2_with fail
  go_ret
  exact ⟨V, c, rfl, HO.out, HB.out⟩
set_option maxRecDepth 100000 in
theorem marks_doc : Calls Tryz.prog 25 #[.pointer (some ⟨b, 0, none⟩)] w (RowPost w 136 3 st.marks.length (mcells st.marks)) := by
  have HC := Lib.hid (cloneM w w.heap.size D.a2 st.marks.length D.c2 (mcells st.marks) h.marks.reads (oneCells_m st.marks) (Fits.of_small (by have := ok.marks.few; omega) (by decide)) (Nat.le_refl _))
  have c0 : w.cell? ⟨b, 1, none⟩ = some (.slice D.a2 st.marks.length D.c2) := by rw [h.blk.cell]; rfl
  clear h ok
  go_enter Tryz.func25, Tryz.ntmps25
  go_wp2_with fail
  refine HC.out.mono ?_
  rintro e w1 ⟨V, c, rfl, hO, hb⟩
  have HO := Lib.hid hO
  have HB := Lib.hid hb
  clear hO hb
  go_wp2_with fail
  go_ret
  exact ⟨V, c, rfl, HO.out, HB.out⟩
set_option maxRecDepth 100000 in
theorem text_doc : Calls Tryz.prog 14 #[.pointer (some ⟨b, 0, none⟩)] w (CheckPost w (.string (textOf st.book))) := by
  have HC := Lib.hid (textOf_any w D.a1 D.c1 st.book h.book.reads (fit_ok ok.book) (by have := ok.book.few; omega))
  have c0 : w.cell? ⟨b, 0, none⟩ = some (.slice D.a1 st.book.length D.c1) := by rw [h.blk.cell]; rfl
  clear h ok
  go_enter Tryz.func14, Tryz.ntmps14
  go_wp2_with fail
  refine HC.out.mono ?_
  rintro e w1 ⟨rfl, hb⟩
  have HB := Lib.hid hb
  clear hb
  go_wp2_with fail
  go_ret
  exact ⟨rfl, HB.out⟩
end
end Go.Proofs.YthfbjfocmnikaaaGreatDoor
/- leafsame.Leafs, walked. Conditions: few elements. -/
namespace Go.Proofs.YthfbjfocmnikaaaGreatDoor
open Go.RowKit
set_option linter.unusedVariables false
namespace SameLeafs
instance dec : DecidableEq LLeaf := fun a b => by
  cases a; cases b
  simp only [LLeaf.mk.injEq]
  exact inferInstance
set_option maxRecDepth 100000 in
theorem eq_one (W : World) (x0 y0 : ByteArray) (x1 y1 : Int) (x2 y2 : Bool) : (Op.equalIn 10000 115 (.agg #[.string x0, .int .i64 x1, .bool x2]) (.agg #[.string y0, .int .i64 y1, .bool y2])).run Tryz.prog W = .ok (x0.toList == y0.toList && (x1 == y1 && (x2 == y2))) W := by
  have ub := Tryz.underlying4
  have ui := Tryz.underlying3
  have us := Tryz.underlying9
  have hS : Tryz.prog.underlying 115 = some (.struct (Tryz.prog.fieldsOf 115)) := by kernel_rfl
  have hp : Tryz.prog.stoodInHeld 115 = false := by kernel_rfl
  rw [show (10000 : Nat) = 9999 + 1 from rfl, run_equalIn_agg W 9999 115 _ _ hS hp]
  simp only [Program.fieldsOf, Tryz.underlying115]
  go_simp
  by_cases h0 : x0.toList = y0.toList <;> by_cases h1 : x1 = y1 <;> by_cases h2 : x2 = y2 <;> simp [h0, h1, h2]
theorem same_one {x0 y0 : ByteArray} {x1 y1 : Int} {x2 y2 : Bool} : (x0.toList == y0.toList && (x1 == y1 && (x2 == y2))) = decide ((⟨x0, x1, x2⟩ : LLeaf) = ⟨y0, y1, y2⟩) := by
  rw [Bool.eq_iff_iff]
  simp only [Bool.and_eq_true, beq_iff_eq, decide_eq_true_eq, LLeaf.mk.injEq, same_toList]
def Loop (w : World) (l m : List LLeaf) (i : Value) (wr : World) : Prop :=
  ∃ k : Nat, k ≤ l.length ∧ i = .int .i64 k ∧ Hid (Below w.heap.size w wr) ∧ Hid (decide (l = m) = decide (l.drop k = m.drop k))
set_option maxRecDepth 100000 in
set_option maxHeartbeats 1000000 in
theorem any (w : World) (A G : Option Addr) (ca cg : Nat) (l m : List LLeaf) (h1 : Reads w w.heap.size 3 A l.length (lcells l)) (h2 : Reads w w.heap.size 3 G m.length (lcells m)) (hl : l.length ≤ 1000000) (hm : m.length ≤ 1000000) :
    Calls Tryz.prog 22 #[.slice A l.length ca, .slice G m.length cg] w (SamePost w (decide (l = m))) := by
  have HR := Lib.hid h1
  have HS := Lib.hid h2
  clear h1 h2
  by_cases hlm : l.length = m.length
  · have HLM := Lib.hid hlm
    have e0 : ((l.length : Int) != (m.length : Int)) = false := by simp [hlm]
    have e1 : ((l.length : Int) == (m.length : Int)) = true := by simp [hlm]
    clear hlm
    go_enter Tryz.func22, Tryz.ntmps22
    go_wp2_with fail
    go_loopw [5] (fun i wr => Loop w l m i wr) (fun i _ => l.length - (intOf i).toNat)
    case atStart => exact ⟨0, by omega, rfl, Below.refl _ _, Lib.hid rfl⟩
    case round =>
      obtain ⟨k, hk, rfl, HB, HE⟩ := hrel
      by_cases hkn : k < l.length
      · have hkm : k < m.length := by have := HLM.out; omega
        obtain ⟨ad, hA, _, c0, c1, c2⟩ := (HR.out.below HB.out).leaf hkn
        obtain ⟨ag, hG, _, g0, g1, g2⟩ := (HS.out.below HB.out).leaf hkm
        have k1 : (k : Int) < (l.length : Int) := by omega
        have k2 : (k : Int) < (m.length : Int) := by omega
        have k0 : (0 : Int) ≤ (k : Int) := by omega
        subst hA hG
        have hdr : (l.drop k = m.drop k) = (l[k] = m[k] ∧ l.drop (k + 1) = m.drop (k + 1)) := by
          rw [List.drop_eq_getElem_cons hkn, List.drop_eq_getElem_cons hkm, List.cons.injEq]
        have HDR := Lib.hid hdr
        clear hdr
        generalize l[k] = x at *
        generalize m[k] = y at *
        obtain ⟨x0, x1, x2⟩ := x
        obtain ⟨y0, y1, y2⟩ := y
        simp only at c0 c1 c2 g0 g1 g2
        by_cases hxy : (⟨x0, x1, x2⟩ : LLeaf) = ⟨y0, y1, y2⟩
        · have HN : Hid (decide (l = m) = decide (l.drop (k + 1) = m.drop (k + 1))) := by
            show _ = _
            rw [HE.out]; congr 1; rw [HDR.out]; simp [hxy]
          have hq : ∀ W, (Op.equalIn 10000 115 (.agg #[.string x0, .int .i64 x1, .bool x2]) (.agg #[.string y0, .int .i64 y1, .bool y2])).run Tryz.prog W = .ok true W := fun W => by rw [eq_one, same_one, decide_eq_true hxy]
          clear HDR HE hxy
          go_wp2_with fail
          go_quiet (fail)
          go_wp2_with fail
          go_roundw
          case rel => exact ⟨k + 1, by omega, by go_num, below_drewN HB.out _, HN⟩
          case measure => simp [intOf]; omega
        · have HN : Hid (decide (l = m) = false) := by
            show _ = _
            rw [HE.out, decide_eq_false_iff_not, HDR.out]; exact fun h => hxy h.1
          have hq : ∀ W, (Op.equalIn 10000 115 (.agg #[.string x0, .int .i64 x1, .bool x2]) (.agg #[.string y0, .int .i64 y1, .bool y2])).run Tryz.prog W = .ok false W := fun W => by rw [eq_one, same_one, decide_eq_false hxy]
          clear HDR HE hxy
          go_wp2_with fail
          go_quiet (fail)
          go_wp2_with fail
          go_ret
          exact ⟨by rw [HN.out]; rfl, below_drewN HB.out _⟩
      · have HN : Hid (decide (l = m) = true) := by
          show _ = _
          rw [HE.out, List.drop_of_length_le (by omega), List.drop_of_length_le (by have := HLM.out; omega)]; rfl
        have hd : decide ((k : Int) < (l.length : Int)) = false := by simp; omega
        go_wp2_with fail
        go_ret
        exact ⟨by rw [HN.out]; rfl, HB.out⟩
  · have HF : Hid (decide (l = m) = false) := decide_eq_false (fun h => hlm (by rw [h]))
    have e0 : ((l.length : Int) != (m.length : Int)) = true := by simp; omega
    have e1 : ((l.length : Int) == (m.length : Int)) = false := by simp; omega
    clear hlm
    go_enter Tryz.func22, Tryz.ntmps22
    go_wp2_with fail
    go_ret
    exact ⟨by rw [HF.out]; rfl, Below.refl _ _⟩
end SameLeafs
end Go.Proofs.YthfbjfocmnikaaaGreatDoor

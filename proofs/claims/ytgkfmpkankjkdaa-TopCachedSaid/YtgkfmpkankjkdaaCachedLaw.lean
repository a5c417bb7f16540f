/- 10 texts in one: each says ahead of itself what is proved, and its conditions. -/
import Derived.Test.YtgkfmpkankjkdaaBook
import Derived.Test.YtgkfmpkankjkdaaBookAt
import Derived.Test.YtgkfmpkankjkdaaBookFind
import Derived.Test.YtgkfmpkankjkdaaCacheScene
import Derived.Test.YtgkfmpkankjkdaaLift
import Derived.Test.YtgkfmpkankjkdaaMark
import Derived.Test.YtgkfmpkankjkdaaMarks
import Derived.Test.YtgkfmpkankjkdaaNthSeen
import Derived.Test.YtgkfmpkankjkdaaOpenDot
/- marks.PlacesOf, dir.all, walked. -/
namespace Go.Proofs.Ytgkfmpkankjkdaa
open Go.RowKit
set_option linter.unusedVariables false

theorem elemT : Elem Try.prog 70 9 1 16 := Elem.mk_ (z := .string ⟨#[]⟩) Try.underlying70 (by kernel_rfl) rfl (by decide)
def txts (l : List ByteArray) : List Value := l.map Value.string
theorem oneCells_txts (l : List ByteArray) : OneCells (txts l) := by
  intro u hu
  simp only [txts, List.mem_map] at hu
  obtain ⟨b, _, rfl⟩ := hu
  rfl
theorem txts_len (l : List ByteArray) : (txts l).length = l.length := by simp [txts]
theorem txts_get {l : List ByteArray} {i : Nat} (h : i < l.length) : (txts l)[i]? = some (.string l[i]) := by simp [txts, h]
/-- Places of marks, each once. -/
def plStep (out : List ByteArray) (m : LMark) : List ByteArray := if out.getLast? = some m.place then out else out ++ [m.place]
def places (l : List LMark) : List ByteArray := l.foldl plStep []
theorem places_take {l : List LMark} {k : Nat} (h : k < l.length) : places (l.take (k + 1)) = plStep (places (l.take k)) l[k] := by
  unfold places
  rw [List.take_succ_eq_append_getElem h, List.foldl_append]
  rfl
theorem plStep_le (out : List ByteArray) (m : LMark) : (plStep out m).length ≤ out.length + 1 := by
  unfold plStep; split <;> simp
theorem places_le (l : List LMark) (k : Nat) (h : k ≤ l.length) : (places (l.take k)).length ≤ k := by
  induction k with
  | zero => simp [places]
  | succ k ih => rw [places_take (by omega)]; have := plStep_le (places (l.take k)) l[k]; have := ih (by omega); omega
def PlLoop (w : World) (l : List LMark) (v i : Value) (wr : World) : Prop :=
  ∃ (k cv : Nat) (V : Option Addr), k ≤ l.length ∧ i = .int .i64 k ∧ v = .slice V (places (l.take k)).length cv ∧ Hid (Own wr w.heap.size 9 1 V (places (l.take k)).length cv (txts (places (l.take k)))) ∧ Hid (Below w.heap.size w wr)
def PlPost (w : World) (ps : List ByteArray) (e : Ending) (w' : World) : Prop :=
  ∃ (V : Option Addr) (cv : Nat), e = .returned (.slice V ps.length cv) ∧ Own w' w.heap.size 9 1 V ps.length cv (txts ps) ∧ Below w.heap.size w w'
theorem reads_txt (W : World) (p : ByteArray) : Reads (W.alloc (.cells #[.string p] 9)) (W.alloc (.cells #[.string p] 9)).heap.size 1 (some ⟨W.heap.size, 0, none⟩) 1 (txts [p]) := by
  have h := Reads.row W 9 #[.string p]
  simpa [txts] using h
theorem base_app {B : Nat} {w W : World} (h : Below B w W) (hB : B ≤ w.heap.size) (k : Nat) (o : Obj) : B ≤ ((W.drewN k).alloc o).heap.size := by
  have h1 := ((below_drewN h k).alloc (Nat.le_trans hB h.size) o).size
  omega
theorem below_app {B k n c size : Nat} {e : TypeId} {xs : List Value} {w W W' : World} {o : Obj} {A : Option Addr} (h : Below B w W) (hB : B ≤ w.heap.size) (ho : Own W B e size A n c xs) (hl : Only (ob A) ((W.drewN k).alloc o) W') : Below B w W' :=
  ((below_drewN h k).alloc (Nat.le_trans hB h.size) o).trans (hl.below (base_app h hB k o) (fun g hg => (ho.lt g hg).1))
theorem reads_txt2 (w : World) (o : Obj) (k : Nat) (p : ByteArray) : Reads (((w.alloc o).drewN k).alloc (.cells #[.string p] 9)) (((w.alloc o).drewN k).alloc (.cells #[.string p] 9)).heap.size 1 (some ⟨w.heap.size + 1, 0, none⟩) 1 (txts [p]) := by
  have h := reads_txt ((w.alloc o).drewN k) p
  have e : ((w.alloc o).drewN k).heap.size = w.heap.size + 1 := by show (w.alloc o).heap.size = _; simp
  rwa [show (⟨((w.alloc o).drewN k).heap.size, 0, none⟩ : Addr) = ⟨w.heap.size + 1, 0, none⟩ by rw [e]] at h
theorem toList_inj {a b : ByteArray} (h : a.toList = b.toList) : a = b := by
  rw [toList_data, toList_data] at h
  exact ByteArray.ext (Array.ext' h)
set_option maxRecDepth 100000 in
set_option maxHeartbeats 2000000 in
theorem placesOf_any (w : World) (A : Option Addr) (c : Nat) (l : List LMark) (h : Reads w w.heap.size 3 A l.length (mcells l)) (hn : l.length ≤ 40) :
    Calls Try.prog 48 #[.slice A l.length c] w (PlPost w (places l)) := by
  have HR := Lib.hid h
  clear h
  go_enter Try.func48, Try.ntmps48
  go_wp2_with fail
  go_loopw [2, 8] (fun v i wr => PlLoop w l v i wr) (fun _ i _ => l.length - (intOf i).toNat)
  case atStart => exact ⟨0, 0, none, by omega, rfl, rfl, Own.nil _ _ _ _, Below.refl _ _⟩
  case round =>
    obtain ⟨k, cv, V, hk, rfl, rfl, HO, HB⟩ := hrel
    by_cases hkn : k < l.length
    · obtain ⟨ad, rfl, hb, c0, c1, c2⟩ := (HR.out.below HB.out).mark hkn
      have hlt : (k : Int) < (l.length : Int) := by omega
      have htk := places_take hkn
      have hle2 := places_le l k hk
      generalize l[k] = x at c0 c1 c2 htk
      generalize places (l.take k) = T at htk hle2 HO ⊢
      obtain ⟨p, ⟨d, n⟩⟩ := x
      simp only at c0 c1 c2
      have HBa := Lib.hid (HB.out.alloc HB.out.size (.cells #[.string p, .int .i64 d, .int .i64 n] 82))
      have HBox := Lib.hid (Blk.new wr 82 #[.string p, .int .i64 d, .int .i64 n])
      have HOa := Lib.hid (HO.out.alloc (.cells #[.string p, .int .i64 d, .int .i64 n] 82))
      have d0 : (wr.alloc (.cells #[.string p, .int .i64 d, .int .i64 n] 82)).cell? ⟨wr.heap.size, 0, none⟩ = some (.string p) := by rw [HBox.out.cell]; rfl
      have HTK := Lib.hid htk
      clear htk
      rcases T.eq_nil_or_concat with hT | ⟨L, q, hT⟩
      · subst hT
        have hF : Fits (([] : List ByteArray).length + 1) 16 := Fits.of_small (by decide) (by decide)
        have HT2 : Hid (places (l.take (k + 1)) = [p]) := by show _ = _; rw [HTK.out]; rfl
        obtain ⟨m, hm⟩ : ∃ m, m = ([] : List ByteArray).length := ⟨_, rfl⟩
        rw [← hm] at HO HOa ⊢
        have g0 : ((m : Int) == 0) = true := by subst hm; rfl
        rw [← hm] at hF
        have hm' := Lib.hid hm
        clear hm
        have hm := hm'
        clear hm'
        go_wp2_with fail
        go_quiet (fail)
        go_wp2_with (at_builtin; go_loud (refine wpList_app _ (.tmp 26) (.tmp 29) rfl rfl elemT rfl rfl ((HOa.out.drewN _).alloc _) (reads_txt2 wr _ _ p) (oneCells_txts _) hF (base_app HBa.out (Nat.le_refl _) _ _) ?_; intro V2 cv2 w2 HO2 HL2 HX2; have HOn := Lib.hid HO2; have HBn : Hid (Below w.heap.size w w2) := below_app HBa.out (Nat.le_refl _) HOa.out HL2; clear HO2 HL2 HX2))
        go_roundw
        case rel =>
          refine ⟨k + 1, cv2, V2, by omega, by go_num, by rw [HT2.out, show ([p] : List ByteArray).length = m + 1 by rw [hm.out]; rfl] <;> first | rfl | (rw [hm.out]; rfl), Lib.hid ?_, HBn⟩
          rw [HT2.out, show ([p] : List ByteArray).length = m + 1 by rw [hm.out]; rfl]
          exact HOn.out
        case measure => simp [intOf]; omega
      · try rw [List.concat_eq_append] at hT
        subst hT
        have hlen : (L ++ [q]).length = L.length + 1 := by simp
        rw [hlen] at hle2 HO HOa ⊢
        obtain ⟨g, rfl, hg1, hg2⟩ := HO.out.head (by omega)
        have e0 : (wr.alloc (.cells #[.string p, .int .i64 d, .int .i64 n] 82)).cell? ⟨g, L.length, none⟩ = some (.string q) := by
          rw [HOa.out.cellAt (by omega)]; simp [txts]
        have hj39 : L.length ≤ 39 := by omega
        generalize hj : L.length = j at *
        have hj := Lib.hid hj
        have hlen := Lib.hid hlen
        have q1 : IntKind.i64.wrap ((j : Int) + 1 - 1) = (j : Int) := by rw [IntWalk.i64_in _ (by omega)]; omega
        have q2 : IntKind.i64.wrap (((j + 1 : Nat) : Int) - 1) = (j : Int) := by rw [IntWalk.i64_in _ (by omega)]; omega
        have j0 : (0 : Int) ≤ (j : Int) := by omega
        have j1 : (j : Int) < (j : Int) + 1 := by omega
        have g0 : ((j : Int) + 1 == 0) = false := by simp; omega
        have g1 : ¬ ((j : Int) + 1 = 0) := by omega
        by_cases hq : q = p
        · subst hq
          go_wp2_with fail
          go_quiet (fail)
          have HT2 : Hid (places (l.take (k + 1)) = L ++ [q]) := by show _ = _; rw [HTK.out]; simp [plStep]
          go_wp2_with fail
          go_roundw
          case rel =>
            refine ⟨k + 1, cv, some ⟨g, 0, none⟩, by omega, by go_num, by rw [HT2.out, hlen.out], Lib.hid ?_, below_drewN HBa.out _⟩
            rw [HT2.out, hlen.out]
            exact HOa.out.drewN _
          case measure => simp [intOf]; omega
        · have HT2 : Hid (places (l.take (k + 1)) = L ++ [q] ++ [p]) := by
            show _ = _; rw [HTK.out]; unfold plStep; rw [if_neg (by simpa using hq)]
          have gq : (q.toList == p.toList) = false := by
            rw [beq_eq_false_iff_ne]; intro h; exact hq (toList_inj h)
          have hF : Fits (j + 1 + 1) 16 := Fits.of_small (by omega) (by decide)
          go_wp2_with fail
          go_quiet (fail)
          go_wp2_with (at_builtin; go_loud (refine wpList_app _ (.tmp 26) (.tmp 29) rfl rfl elemT rfl rfl ((HOa.out.drewN _).alloc _) (reads_txt2 wr _ _ p) (oneCells_txts _) hF (base_app HBa.out (Nat.le_refl _) _ _) ?_; intro V2 cv2 w2 HO2 HL2 HX2; have HOn := Lib.hid HO2; have HBn : Hid (Below w.heap.size w w2) := below_app HBa.out (Nat.le_refl _) HOa.out HL2; clear HO2 HL2 HX2))
          go_roundw
          case rel =>
            have hl2 : (L ++ [q] ++ [p]).length = j + 1 + 1 := by rw [List.length_append, hlen.out]; rfl
            refine ⟨k + 1, cv2, V2, by omega, by go_num, by rw [HT2.out, hl2], Lib.hid ?_, HBn⟩
            rw [HT2.out, hl2, show txts (L ++ [q] ++ [p]) = txts (L ++ [q]) ++ txts [p] by simp [txts]]
            exact HOn.out
          case measure => simp [intOf]; omega
    · have hd : decide ((k : Int) < (l.length : Int)) = false := by simp; omega
      have HT : Hid (places (l.take k) = places l) := by show _ = _; rw [List.take_of_length_le (by omega)]
      go_wp2_with fail
      go_ret
      rw [HT.out] at HO ⊢
      exact ⟨V, cv, rfl, HO.out, HB.out⟩
end Go.Proofs.Ytgkfmpkankjkdaa
/- dir.all, walked. -/
namespace Go.Proofs.Ytgkfmpkankjkdaa
open Go.RowKit
set_option linter.unusedVariables false

structure LStr where
  place : ByteArray
  from_ : Int
  long : Int
def LStr.cells (x : LStr) : List Value := [.string x.place, .int .i64 x.from_, .int .i64 x.long]
theorem LStr.cells_len (m : LStr) : m.cells.length = 3 := rfl
def scells (l : List LStr) : List Value := l.flatMap LStr.cells
theorem scells_len (l : List LStr) : (scells l).length = l.length * 3 := flat_len_of LStr.cells_len l
theorem scells_at (l : List LStr) (k r : Nat) (hk : k < l.length) (hr : r < 3) : (scells l)[k * 3 + r]? = l[k].cells[r]? := by
  unfold scells
  rw [flat_at LStr.cells_len (by decide), show (k * 3 + r) / 3 = k by omega, show (k * 3 + r) % 3 = r by omega, List.getElem?_eq_getElem hk]
  rfl
/-- A stretch of the row, read. -/
theorem Reads.str {w : World} {B : Nat} {A : Option Addr} {l : List LStr} (h : Reads w B 3 A l.length (scells l)) {k : Nat} (hk : k < l.length) :
    ∃ ad, A = some ad ∧ ad.block < B ∧ w.cell? (ad.add (k * 3)) = some (.string l[k].place) ∧ w.cell? ⟨(ad.add (k * 3)).block, (ad.add (k * 3)).off + 1, none⟩ = some (.int .i64 l[k].from_) ∧
      w.cell? ⟨(ad.add (k * 3)).block, (ad.add (k * 3)).off + 2, none⟩ = some (.int .i64 l[k].long) := by
  obtain ⟨ad, e, hb, hc⟩ := h.2 (by omega)
  refine ⟨ad, e, hb, ?_, ?_, ?_⟩
  · exact hc _ _ (by rw [show k * 3 = k * 3 + 0 from rfl, scells_at l k 0 hk (by omega)]; rfl)
  · rw [show (⟨(ad.add (k * 3)).block, (ad.add (k * 3)).off + 1, none⟩ : Addr) = (ad.add (k * 3)).add 1 from rfl, add_of_add]
    exact hc _ _ (by rw [scells_at l k 1 hk (by omega)]; rfl)
  · rw [show (⟨(ad.add (k * 3)).block, (ad.add (k * 3)).off + 2, none⟩ : Addr) = (ad.add (k * 3)).add 2 from rfl, add_of_add]
    exact hc _ _ (by rw [scells_at l k 2 hk (by omega)]; rfl)
theorem scells_last (pre : List LStr) (q : ByteArray) (f u v : Int) : (scells (pre ++ [⟨q, f, u⟩])).set (pre.length * 3 + 2) (.int .i64 v) = scells (pre ++ [⟨q, f, v⟩]) := by
  unfold scells
  rw [List.flatMap_append, List.flatMap_append, List.set_append_right]
  · have h : (List.flatMap LStr.cells pre).length = pre.length * 3 := scells_len pre
    rw [h, show pre.length * 3 + 2 - pre.length * 3 = 2 by omega]; rfl
  · have h : (List.flatMap LStr.cells pre).length = pre.length * 3 := scells_len pre
    omega
theorem elemSt : Elem Try.prog 40 52 3 32 := Elem.mk_ (z := .agg #[.string ⟨#[]⟩, .int .i64 0, .int .i64 0]) Try.underlying40 (by kernel_rfl) rfl (by decide)
def plAt (ps : List ByteArray) (k : Nat) : ByteArray := (((⟨#[]⟩ : ByteArray) :: ps)[k]?).getD ⟨#[]⟩
/-- So much is seen ahead of a place. -/
def frOf (l : List LLeaf) (p : ByteArray) : Nat := (textL (l.take (ahead l p))).length
def fr (l : List LLeaf) (ps : List ByteArray) (k : Nat) : Nat := frOf l (plAt ps k)
def stAt (l : List LLeaf) (ps : List ByteArray) (k : Nat) : LStr := ⟨plAt ps k, fr l ps k, (fr l ps (k + 1) : Int) - fr l ps k⟩
def preL (l : List LLeaf) (ps : List ByteArray) (k : Nat) : List LStr := (List.range k).map (stAt l ps)
theorem preL_len (l : List LLeaf) (ps : List ByteArray) (k : Nat) : (preL l ps k).length = k := by simp [preL]
theorem preL_succ (l : List LLeaf) (ps : List ByteArray) (k : Nat) : preL l ps (k + 1) = preL l ps k ++ [stAt l ps k] := by simp [preL, List.range_succ]
/-- The stretches of a book. -/
def strL (l : List LLeaf) (ps : List ByteArray) : List LStr := preL l ps ps.length ++ [⟨plAt ps ps.length, fr l ps ps.length, ((textL l).length : Int) - fr l ps ps.length⟩]
theorem frOf_le (l : List LLeaf) (p : ByteArray) : frOf l p ≤ l.length := by
  unfold frOf
  have := textL_le (l.take (ahead l p))
  rw [List.length_take] at this
  omega
theorem fr_zero (l : List LLeaf) (ps : List ByteArray) : fr l ps 0 = 0 := by
  unfold fr frOf plAt
  have h : ahead l ⟨#[]⟩ = 0 := by
    unfold ahead
    rw [List.length_eq_zero_iff, List.filter_eq_nil_iff]
    intro x _
    simp [toList_data, Op.bytesLess]
  simp [h, textL]
def AllPost (w : World) (ss : List LStr) (e : Ending) (w' : World) : Prop :=
  ∃ (V : Option Addr) (cv : Nat), e = .returned (.slice V ss.length cv) ∧ Own w' w.heap.size 52 3 V ss.length cv (scells ss) ∧ Below w.heap.size w w'
def AllLoop (w : World) (l : List LLeaf) (ps : List ByteArray) (VP : Option Addr) (cP : Nat) (v i : Value) (wr : World) : Prop :=
  ∃ (k cv g : Nat), Hid (Own wr w.heap.size 9 1 VP ps.length cP (txts ps)) ∧ k ≤ ps.length ∧ i = .int .i64 k ∧ v = .slice (some ⟨g, 0, none⟩) (k + 1) cv ∧ w.heap.size ≤ g ∧ Hid (Own wr w.heap.size 52 3 (some ⟨g, 0, none⟩) (k + 1) cv (scells (preL l ps k ++ [⟨plAt ps k, fr l ps k, 0⟩]))) ∧ Hid (Below w.heap.size w wr)
theorem Reads.takeL {w : World} {B : Nat} {A : Option Addr} {l : List LLeaf} (h : Reads w B 3 A l.length (lcells l)) {i : Nat} (hi : i ≤ l.length) : Reads w B 3 A (l.take i).length (lcells (l.take i)) := by
  refine ⟨lcells_len _, fun h0 => ?_⟩
  rw [List.length_take] at h0
  obtain ⟨ad, e, hb, hc⟩ := h.2 (by omega)
  refine ⟨ad, e, hb, fun j u hu => hc j u ?_⟩
  have hs : lcells l = lcells (l.take i) ++ lcells (l.drop i) := by unfold lcells; rw [← List.flatMap_append, List.take_append_drop]
  have hlt : j < (lcells (l.take i)).length := by
    rcases Nat.lt_or_ge j (lcells (l.take i)).length with h1 | h1
    · exact h1
    · rw [List.getElem?_eq_none h1] at hu; cases hu
  rw [hs, List.getElem?_append_left hlt]
  exact hu
theorem Own.ne_ {w : World} {B B' size size' n n' c c' : Nat} {e e' : TypeId} {A A' : Option Addr} {xs xs' : List Value} (h : Own w B e size A n c xs) (h' : Own w B' e' size' A' n' c' xs') (hne : e ≠ e') : ∀ g ∈ ob A, g ∉ ob A' := by
  intro g hg
  rcases h.2 with ⟨he, _⟩ | ⟨g', cap, cur, he, _, hh, _⟩
  · injection he with he; subst he; simp [ob] at hg
  · injection he with he
    subst he
    have : g = g' := by simpa [ob] using hg
    subst this
    exact Own.blk_ne (t := e) h' hh (fun x => hne x.symm)
theorem Own.setFar {w : World} {B size n c : Nat} {e : TypeId} {A : Option Addr} {xs : List Value} (h : Own w B e size A n c xs) {p : Addr} (hp : p.block ∉ ob A) (u : Value) : Own (w.setCell p u) B e size A n c xs :=
  h.only (S := [p.block]) ((Only.refl _ w).setCell (.inl (by simp)) u) (fun g hg hm => by simp at hm; subst hm; exact hp hg)
theorem Own.storeS {w : World} {B : Nat} {e : TypeId} {g n c size : Nat} {xs : List Value} (h : Own w B e size (some ⟨g, 0, none⟩) n c xs) {k : Nat} (hk : k < n * size) (u : Value) : Own (w.setCell ⟨g, k, none⟩ u) B e size (some ⟨g, 0, none⟩) n c (xs.set k u) := by
  obtain ⟨h1, h2⟩ := h
  refine ⟨by rw [List.length_set]; exact h1, ?_⟩
  rcases h2 with ⟨h2, _⟩ | ⟨g', cap, cur, e1, e2, e3, e4, e5, e6, e7⟩
  · cases h2
  · injection e1 with e1 _ ec
    injection e1 with e1
    injection e1 with e1
    subst e1 ec
    refine .inr ⟨g, c, cur.setIfInBounds k u, rfl, e2, Blk.set_ (t := e) e3 k u, e4, e5, by simpa using e6, ?_⟩
    rw [Array.toList_setIfInBounds, ← e7, List.take_set]
theorem base_al {B : Nat} {w W : World} (h : Below B w W) (hB : B ≤ w.heap.size) (o : Obj) : B ≤ (W.alloc o).heap.size := base_app h hB 0 o
theorem scells_append (a b : List LStr) : scells (a ++ b) = scells a ++ scells b := List.flatMap_append
theorem oneCells_str (l : List LStr) : OneCells (scells l) := by
  intro u hu
  simp only [scells, List.mem_flatMap, LStr.cells, List.mem_cons, List.not_mem_nil, or_false] at hu
  obtain ⟨b, _, h | h | h⟩ := hu <;> subst h <;> rfl
theorem reads_str (W : World) (b : Nat) (hb : W.heap.size = b) (q : ByteArray) (f v : Int) : Reads (W.alloc (.cells #[.string q, .int .i64 f, .int .i64 v] 52)) (W.heap.size + 1) 3 (some ⟨b, 0, none⟩) 1 (scells [⟨q, f, v⟩]) := by
  subst hb
  have h := Reads.row W 52 #[.string q, .int .i64 f, .int .i64 v]
  simpa [scells, LStr.cells] using h
set_option maxRecDepth 100000 in
set_option maxHeartbeats 4000000 in
theorem all_any (w : World) (A : Option Addr) (c : Nat) (l : List LLeaf) (h : Reads w w.heap.size 3 A l.length (lcells l)) (hn : l.length ≤ 300) (hc : l.length ≤ c) (hr : Rising l) (hf : Fit l)
    (A2 : Option Addr) (c2 : Nat) (m : List LMark) (h2 : Reads w w.heap.size 3 A2 m.length (mcells m)) (hm : m.length ≤ 40) :
    Calls Try.prog 27 #[.slice A l.length c, .slice A2 m.length c2] w (AllPost w (strL l (places m))) := by
  have HR := Lib.hid h
  have HR2 := Lib.hid h2
  have HP := Lib.hid (fun w (h : Reads w w.heap.size 3 A2 m.length (mcells m)) => placesOf_any w A2 c2 m h hm)
  have HF := Lib.hid (fun w p (h : Reads w w.heap.size 3 A l.length (lcells l)) => find_any w A c l p h (by omega) hr)
  have HT : Hid (∀ w (i : Nat), i ≤ l.length → Reads w w.heap.size 3 A l.length (lcells l) → Calls Try.prog 24 #[.slice A i c] w (CheckPost w (.string (textOf (l.take i))))) := fun w i hi h => by
    have := textOf_any w A c (l.take i) (h.takeL hi) (fun x hx => hf x (List.mem_of_mem_take hx)) (by rw [List.length_take]; omega)
    rwa [List.length_take, Nat.min_eq_left hi] at this
  clear h h2 hr hf
  go_enter Try.func27, Try.ntmps27
  go_wp2_with fail
  have hsz0 : (w.alloc (.cells #[.string ⟨#[]⟩, .int .i64 0, .int .i64 0] 52)).heap.size = w.heap.size + 1 := by simp
  refine (HP.out _ ((HR2.out.alloc (Nat.le_refl _) _).more (by simp))).mono ?_
  rintro e w1 ⟨VP, cP, rfl, hp, hb1⟩
  have HO1 : Hid (Own w1 w.heap.size 52 3 (some ⟨w.heap.size, 0, none⟩) 1 1 (scells (preL l (places m) 0 ++ [⟨plAt (places m) 0, fr l (places m) 0, 0⟩]))) := by
    have h0 : fr l (places m) 0 = 0 := fr_zero l (places m)
    rw [show scells (preL l (places m) 0 ++ [⟨plAt (places m) 0, fr l (places m) 0, 0⟩]) = [.string ⟨#[]⟩, .int .i64 0, .int .i64 0] by rw [h0]; rfl]
    refine Own.below ?_ hb1
    exact ⟨rfl, .inr ⟨w.heap.size, 1, _, rfl, Nat.le_refl _, Blk.new w 52 _, Nat.le_refl _, by unfold maxLen; decide, rfl, rfl⟩⟩
  have HB1 : Hid (Below w.heap.size w w1) := ((Below.refl _ _).alloc (Nat.le_refl _) _).trans (hb1.mono (by simp))
  have HPr : Hid (Own w1 w.heap.size 9 1 VP (places m).length cP (txts (places m))) := Own.mono hp (by simp)
  clear hb1 hp
  have hps : (places m).length ≤ 40 := by have := places_le m m.length (Nat.le_refl _); rw [List.take_length] at this; omega
  generalize places m = ps at *
  go_wp2_with fail
  go_loopw [5, 18] (fun v i wr => AllLoop w l ps VP cP v i wr) (fun _ i _ => ps.length - (intOf i).toNat)
  case atStart => exact ⟨0, 1, w.heap.size, HPr, by omega, rfl, rfl, Nat.le_refl _, HO1, HB1⟩
  case round =>
    obtain ⟨k, cv, g, HS, hk, rfl, rfl, hg, HO, HB⟩ := hrel
    have HRr := Lib.hid (HR.out.below HB.out)
    have hwr : w.heap.size ≤ wr.heap.size := HB.out.size
    by_cases hkn : k < ps.length
    · obtain ⟨adp, u, rfl, _, hu, hcell⟩ := HS.out.reads.at_ hkn
      rw [txts_get hkn] at hu
      injection hu with hu
      subst hu
      have hlt : (k : Int) < (ps.length : Int) := by omega
      have hplk : plAt ps (k + 1) = ps[k] := by unfold plAt; simp [hkn]
      generalize ps[k] = q at hcell hplk
      have HPL := Lib.hid hplk
      clear hplk
      go_wp2_with fail
      refine (HF.out _ q (HRr.out.more hwr)).mono ?_
      rintro e w2 ⟨rfl, hb2⟩
      have ha : ahead l q ≤ l.length := List.length_filter_le _ _
      have HFR : Hid (fr l ps (k + 1) = (textOf (l.take (ahead l q))).size) := by
        show fr l ps (k + 1) = _
        unfold fr frOf textOf; rw [HPL.out, strOf_size]
      generalize hasAt l q = hq0
      generalize ahead l q = i at ha HFR
      have HS2 := Lib.hid (HS.out.below hb2)
      have HO2 := Lib.hid (HO.out.below hb2)
      have HB2 := Lib.hid (HB.out.trans (hb2.mono HB.out.size))
      have HR2 := Lib.hid (HR.out.below HB2.out)
      clear hb2 hcell
      have i0 : (0 : Int) ≤ (i : Int) := by omega
      have i1 : (i : Int) ≤ (c : Int) := by omega
      have i2 : i ≤ c := by omega
      go_wp2_with fail
      refine (HT.out _ i ha (HR2.out.more HB2.out.size)).mono ?_
      rintro e w3 ⟨rfl, hb3⟩
      have hft : fr l ps (k + 1) ≤ 300 := by have := frOf_le l (plAt ps (k + 1)); unfold fr; omega
      have hfk : fr l ps k ≤ 300 := by have := frOf_le l (plAt ps k); unfold fr; omega
      have HS3 := Lib.hid (HS2.out.below hb3)
      have HO3 := Lib.hid (HO2.out.below hb3)
      have HB3 := Lib.hid (HB2.out.trans (hb3.mono HB2.out.size))
      clear hb3
      have HPS := Lib.hid (preL_succ l ps k)
      have hst : stAt l ps k = ⟨plAt ps k, fr l ps k, (fr l ps (k + 1) : Int) - fr l ps k⟩ := rfl
      have HST := Lib.hid hst
      clear hst
      have hpl := preL_len l ps k
      have hat : w3.cell? ⟨g, k * 3 + 1, none⟩ = some (.int .i64 (fr l ps k)) := by
        rw [HO3.out.cellAt (by omega), scells_at _ k 1 (by simp [hpl]) (by omega)]
        simp [hpl, LStr.cells]
      have hc2 : w3.cell? ⟨g, k * 3 + 2, none⟩ = some (.int .i64 0) := by
        rw [HO3.out.cellAt (by omega), scells_at _ k 2 (by simp [hpl]) (by omega)]
        simp [hpl, LStr.cells]
      have hfz : w3.frozen? ⟨g, k * 3 + 2, none⟩ = false := HO3.out.frozenAt _
      have HL := Lib.hid (scells_last (preL l ps k) (plAt ps k) (fr l ps k) 0)
      rw [hpl] at HL
      clear hpl
      generalize preL l ps k = pre at *
      generalize textOf (l.take i) = tx at *
      have htx : tx.size ≤ 300 := by have := HFR.out; omega
      clear hft
      generalize hF0 : fr l ps k = f0 at *
      generalize hqk : plAt ps k = qk at *
      have q1 : IntKind.i64.wrap ((k : Int) + 1 - 1) = (k : Int) := by rw [IntWalk.i64_in _ (by omega)]; omega
      have q2 : IntKind.i64.wrap (((k + 1 : Nat) : Int) - 1) = (k : Int) := by rw [IntWalk.i64_in _ (by omega)]; omega
      have j0 : (0 : Int) ≤ (k : Int) := by omega
      have j1 : (k : Int) < (k : Int) + 1 := by omega
      have hw : IntKind.i64.wrap ((tx.size : Int) - (f0 : Int)) = (tx.size : Int) - (f0 : Int) := by rw [IntWalk.i64_in _ (by omega)]
      have H0 := Lib.hid hF0
      have HQ := Lib.hid hqk
      clear hF0 hqk
      have HO4 : Hid (Own (w3.setCell ⟨g, k * 3 + 2, none⟩ (.int .i64 ((tx.size : Int) - (f0 : Int)))) w.heap.size 52 3 (some ⟨g, 0, none⟩) (k + 1) cv (scells (pre ++ [⟨qk, f0, (tx.size : Int) - (f0 : Int)⟩]))) := by
        show Own _ _ _ _ _ _ _ _
        rw [← HL.out]
        exact HO3.out.storeS (by omega) _
      have HS4 : Hid (Own (w3.setCell ⟨g, k * 3 + 2, none⟩ (.int .i64 ((tx.size : Int) - (f0 : Int)))) w.heap.size 9 1 (some adp) ps.length cP (txts ps)) :=
        HS3.out.setFar (fun hm => Own.ne_ HS3.out HO3.out (by decide) _ hm (by simp [ob])) _
      have HB4 : Hid (Below w.heap.size w (w3.setCell ⟨g, k * 3 + 2, none⟩ (.int .i64 ((tx.size : Int) - (f0 : Int))))) := HB3.out.trans ((Only.setCell (Only.refl [g] w3) (.inl (by simp)) _).below HB3.out.size (by simpa using hg))
      have hF : Fits (k + 1 + 1) 32 := Fits.of_small (by omega) (by decide)
      go_wp2_with (at_builtin; go_loud (refine wpList_app _ (.tmp 47) (.tmp 51) rfl rfl elemSt rfl rfl (HO4.out.alloc _) (reads_str _ _ (by simp [World.setCell]) q tx.size 0) (oneCells_str _) hF (base_al HB4.out (Nat.le_refl _) _) ?_; intro V2 cv2 w5 HO5 HL5 HX5; have HS5 := Lib.hid ((HS4.out.alloc _).only HL5 (fun x hx => Own.ne_ HS4.out HO4.out (by decide) x hx)); have HB5 := Lib.hid ((HB4.out.alloc HB4.out.size _).trans (HL5.below (base_al HB4.out (Nat.le_refl _) _) (fun x hx => (HO4.out.lt x hx).1))); obtain ⟨g2, rfl, hg2, _⟩ := HO5.head (by omega); have HO6 := Lib.hid HO5; clear HO5 HL5 HX5))
      go_roundw
      case rel =>
        refine ⟨k + 1, cv2, g2, HS5, by omega, by go_num, rfl, hg2, Lib.hid ?_, HB5⟩
        rw [HPS.out, HST.out, HFR.out, HPL.out, scells_append]
        exact HO6.out
      case measure => simp [intOf]; omega
    · have hd : decide ((k : Int) < (ps.length : Int)) = false := by simp; omega
      obtain rfl : k = ps.length := by omega
      have hsl : (strL l ps).length = ps.length + 1 := by simp [strL, preL_len]
      have HSL := Lib.hid hsl
      have HSTR : Hid (strL l ps = preL l ps ps.length ++ [⟨plAt ps ps.length, fr l ps ps.length, ((textL l).length : Int) - fr l ps ps.length⟩]) := Lib.hid rfl
      clear hsl
      have HTL : Hid (∀ w, Reads w w.heap.size 3 A l.length (lcells l) → Calls Try.prog 24 #[.slice A l.length c] w (CheckPost w (.string (textOf l)))) := fun w h => by
        have := HT.out w l.length (Nat.le_refl _) h
        rwa [List.take_length] at this
      have hfk : fr l ps ps.length ≤ 300 := by have := frOf_le l (plAt ps ps.length); unfold fr; omega
      have hft : (textOf l).size = (textL l).length := strOf_size _
      have hft2 := textL_le l
      rw [← hft] at hft2 HSTR
      clear hft
      have hpl := preL_len l ps ps.length
      have HAT : Hid (∀ w3, Own w3 w.heap.size 52 3 (some ⟨g, 0, none⟩) (ps.length + 1) cv (scells (preL l ps ps.length ++ [⟨plAt ps ps.length, fr l ps ps.length, 0⟩])) → w3.cell? ⟨g, ps.length * 3 + 1, none⟩ = some (.int .i64 (fr l ps ps.length)) ∧ w3.cell? ⟨g, ps.length * 3 + 2, none⟩ = some (.int .i64 0)) := fun w3 h => by
        constructor
        · rw [h.cellAt (by omega), scells_at _ ps.length 1 (by simp [hpl]) (by omega)]
          simp [hpl, LStr.cells]
        · rw [h.cellAt (by omega), scells_at _ ps.length 2 (by simp [hpl]) (by omega)]
          simp [hpl, LStr.cells]
      have HL := Lib.hid (scells_last (preL l ps ps.length) (plAt ps ps.length) (fr l ps ps.length) 0)
      rw [hpl] at HL
      clear hpl
      have ha1 := (HAT.out wr HO.out).1
      clear hkn hk
      generalize preL l ps ps.length = pre at *
      generalize textOf l = tx at *
      generalize fr l ps ps.length = f0 at *
      generalize plAt ps ps.length = qk at *
      generalize strL l ps = RES at *
      generalize ps.length = k at *
      have q1 : IntKind.i64.wrap ((k : Int) + 1 - 1) = (k : Int) := by rw [IntWalk.i64_in _ (by omega)]; omega
      have q2 : IntKind.i64.wrap (((k + 1 : Nat) : Int) - 1) = (k : Int) := by rw [IntWalk.i64_in _ (by omega)]; omega
      have j0 : (0 : Int) ≤ (k : Int) := by omega
      have j1 : (k : Int) < (k : Int) + 1 := by omega
      have hw : IntKind.i64.wrap ((tx.size : Int) - (f0 : Int)) = (tx.size : Int) - (f0 : Int) := by rw [IntWalk.i64_in _ (by omega)]
      have HFIN : Hid (∀ w3, Below wr.heap.size wr w3 → Own (w3.setCell ⟨g, k * 3 + 2, none⟩ (.int .i64 ((tx.size : Int) - (f0 : Int)))) w.heap.size 52 3 (some ⟨g, 0, none⟩) (k + 1) cv (scells (pre ++ [⟨qk, f0, (tx.size : Int) - (f0 : Int)⟩])) ∧ Below w.heap.size w (w3.setCell ⟨g, k * 3 + 2, none⟩ (.int .i64 ((tx.size : Int) - (f0 : Int))))) := fun w3 hb3 => by
        have HB3 := HB.out.trans (hb3.mono HB.out.size)
        refine ⟨?_, HB3.trans ((Only.setCell (Only.refl [g] w3) (.inl (by simp)) _).below HB3.size (by simpa using hg))⟩
        rw [← HL.out]
        exact (HO.out.below hb3).storeS (by omega) _
      go_wp2_with fail
      go_region_law ((go_simp; go_at_call 24; refine (HTL.out _ ((HRr.out.drewN _).more hwr)).mono ?_; rintro e w3 ⟨rfl, hb3'⟩; have hb3 : Below wr.heap.size wr w3 := below_of_drewN hb3'; have hat := (HAT.out w3 (HO.out.below hb3)).1; have hc2 := (HAT.out w3 (HO.out.below hb3)).2; have hfz : w3.frozen? ⟨g, k * 3 + 2, none⟩ = false := (HO.out.below hb3).frozenAt _))
      all_goals
        go_wp2_with fail
        go_ret
        obtain ⟨r1, r2⟩ := HFIN.out w3 hb3
        refine ⟨some ⟨g, 0, none⟩, cv, by rw [HSL.out]; rfl, ?_, ?_⟩
        · rw [HSL.out, HSTR.out]; exact r1
        · exact r2
end Go.Proofs.Ytgkfmpkankjkdaa
/- dir.Stretches, walked. -/
namespace Go.Proofs.Ytgkfmpkankjkdaa
open Go.RowKit
set_option linter.unusedVariables false

def dirErr (l : List LLeaf) (m : List LMark) : Int := if bookErr l ≠ 0 then bookErr l else marksErr m
theorem marks_few {m : List LMark} (h : marksErr m = 0) : m.length ≤ 40 := by
  unfold marksErr at h
  by_cases h1 : 40 < m.length
  · rw [if_pos h1] at h; omega
  · omega
/-- Stretches of leafs and marks that are right. -/
def StretchPost (w : World) (ss : List LStr) (e : Ending) (w' : World) : Prop :=
  ∃ (V : Option Addr) (cv : Nat), e = .returned (.tuple #[.slice V ss.length cv, .nilIface]) ∧ Own w' w.heap.size 52 3 V ss.length cv (scells ss) ∧ Below w.heap.size w w'
/-- What the four functions of dir are given. -/
structure DirIn (w : World) (A : Option Addr) (c : Nat) (l : List LLeaf) (A2 : Option Addr) (c2 : Nat) (m : List LMark) : Prop where
  rl : Reads w w.heap.size 3 A l.length (lcells l)
  rm : Reads w w.heap.size 3 A2 m.length (mcells m)
  sl : Sized l
  sm : MSized m
  nl : l.length ≤ 9223372036854775807
  nm : m.length ≤ 9223372036854775807
  cl : l.length ≤ c
section
variable {w w' : World} {A A2 : Option Addr} {c c2 : Nat} {l : List LLeaf} {m : List LMark}
theorem DirIn.below (h : DirIn w A c l A2 c2 m) (hb : Below w.heap.size w w') : DirIn w' A c l A2 c2 m :=
  ⟨(h.rl.below hb).more hb.size, (h.rm.below hb).more hb.size, h.sl, h.sm, h.nl, h.nm, h.cl⟩
theorem DirIn.drewN (h : DirIn w A c l A2 c2 m) (k : Nat) : DirIn (w.drewN k) A c l A2 c2 m := ⟨h.rl, h.rm, h.sl, h.sm, h.nl, h.nm, h.cl⟩
theorem DirIn.alloc (h : DirIn w A c l A2 c2 m) (o : Obj) : DirIn (w.alloc o) A c l A2 c2 m := h.below ((Below.refl _ _).alloc (Nat.le_refl _) o)
set_option maxRecDepth 100000 in
set_option maxHeartbeats 2000000 in
theorem stretches_ok (H : DirIn w A c l A2 c2 m) (h : dirErr l m = 0) :
    Calls Try.prog 9 #[.slice A l.length c, .slice A2 m.length c2] w (StretchPost w (strL l (places m))) := by
  have hb0 : bookErr l = 0 := by
    unfold dirErr at h
    by_cases h1 : bookErr l = 0
    · exact h1
    · rw [if_pos h1] at h; exact h
  have hm0 : marksErr m = 0 := by
    unfold dirErr at h; rw [if_neg (fun x => x hb0)] at h; exact h
  have ok := book_ok hb0
  have HI := Lib.hid H
  have HC := Lib.hid (fun w (H : DirIn w A c l A2 c2 m) => bookCheck_any w A c l H.rl H.sl H.nl)
  have HM := Lib.hid (fun w (H : DirIn w A c l A2 c2 m) => marksCheck_any w A2 c2 m H.rm H.sm H.nm)
  have HA := Lib.hid (fun w (H : DirIn w A c l A2 c2 m) => all_any w A c l H.rl ok.few H.cl ok.rising ok.fit A2 c2 m H.rm (marks_few hm0))
  have HB0 := Lib.hid hb0
  have HM0 := Lib.hid hm0
  clear H h hb0 hm0 ok
  go_enter Try.func9, Try.ntmps9
  go_wp2_with fail
  refine (HC.out _ HI.out).mono ?_
  rintro e w1 ⟨rfl, hb1⟩
  rw [HB0.out, show errV 0 = .nilIface from rfl]
  have HI1 := Lib.hid (HI.out.below hb1)
  have HB1 := Lib.hid hb1
  clear hb1
  go_wp2_with fail
  refine (HM.out _ HI1.out).mono ?_
  rintro e w2 ⟨rfl, hb2⟩
  rw [HM0.out, show errV 0 = .nilIface from rfl]
  have HI2 := Lib.hid (HI1.out.below hb2)
  have HB2 := Lib.hid (HB1.out.trans (hb2.mono HB1.out.size))
  clear hb2
  go_wp2_with fail
  refine (HA.out _ HI2.out).mono ?_
  rintro e w3 ⟨V, cv, rfl, hO, hb3⟩
  have HO := Lib.hid (hO.mono HB2.out.size)
  have HB3 := Lib.hid (HB2.out.trans (hb3.mono HB2.out.size))
  clear hb3 hO
  go_wp2_with fail
  go_ret2
  exact ⟨V, cv, rfl, HO.out, HB3.out⟩
def ErrPost (w : World) (n : Int) (e : Ending) (w' : World) : Prop := e = .returned (.tuple #[.slice none 0 0, errV n]) ∧ Below w.heap.size w w'
set_option maxRecDepth 100000 in
set_option maxHeartbeats 2000000 in
theorem stretches_bad (H : DirIn w A c l A2 c2 m) (h : dirErr l m ≠ 0) :
    Calls Try.prog 9 #[.slice A l.length c, .slice A2 m.length c2] w (ErrPost w (dirErr l m)) := by
  have HI := Lib.hid H
  have HC := Lib.hid (fun w (H : DirIn w A c l A2 c2 m) => bookCheck_any w A c l H.rl H.sl H.nl)
  have HM := Lib.hid (fun w (H : DirIn w A c l A2 c2 m) => marksCheck_any w A2 c2 m H.rm H.sm H.nm)
  have HV := Lib.hid (errV_ne h)
  by_cases hb0 : bookErr l = 0
  · have HE : Hid (marksErr m = dirErr l m) := by
      show _ = _
      unfold dirErr; rw [if_neg (fun x => x hb0)]
    have HB0 := Lib.hid hb0
    clear H h hb0
    go_enter Try.func9, Try.ntmps9
    go_wp2_with fail
    refine (HC.out _ HI.out).mono ?_
    rintro e w1 ⟨rfl, hb1⟩
    rw [HB0.out, show errV 0 = .nilIface from rfl]
    have HI1 := Lib.hid (HI.out.below hb1)
    have HB1 := Lib.hid hb1
    clear hb1
    go_wp2_with fail
    refine (HM.out _ HI1.out).mono ?_
    rintro e w2 ⟨rfl, hb2⟩
    rw [HE.out, HV.out]
    go_wp2_with fail
    go_ret2
    exact ⟨by rw [HV.out]; rfl, HB1.out.trans (hb2.mono HB1.out.size)⟩
  · have HE : Hid (bookErr l = dirErr l m) := by
      show _ = _
      unfold dirErr; rw [if_pos hb0]
    clear H h hb0
    go_enter Try.func9, Try.ntmps9
    go_wp2_with fail
    refine (HC.out _ HI.out).mono ?_
    rintro e w1 ⟨rfl, hb1⟩
    rw [HE.out, HV.out]
    go_wp2_with fail
    go_ret2
    exact ⟨by rw [HV.out]; rfl, hb1⟩
end
end Go.Proofs.Ytgkfmpkankjkdaa
/- Stretches, in plain Lean: places rise, offsets rise. No program in sight. -/
namespace Go.Proofs.Ytgkfmpkankjkdaa
set_option linter.unusedVariables false

def ltP (p q : ByteArray) : Prop := Op.bytesLess p.toList q.toList = true
theorem ltP_trans {p q r : ByteArray} (h : ltP p q) (h2 : ltP q r) : ltP p r := less_trans _ _ _ h h2
theorem ltP_irrefl (p : ByteArray) : ¬ ltP p p := by unfold ltP; rw [less_irrefl']; decide
def Rises (ps : List ByteArray) : Prop := ps.Pairwise ltP
theorem ord_place {a b : LMark} (h : ¬ 0 ≤ ordM a b) : ltP a.place b.place ∨ a.place = b.place := by
  unfold ordM orI at h
  by_cases h0 : Lib.compareBytes a.place.data.toList b.place.data.toList = 0
  · right
    have := cmp_zero a.place.data.toList b.place.data.toList
    rw [h0] at this
    have h1 : a.place.data.toList = b.place.data.toList := by
      have h2 : (a.place.data.toList == b.place.data.toList) = true := this.symm
      exact beq_iff_eq.mp h2
    exact ByteArray.ext (Array.ext' h1)
  · left
    unfold ltP
    rw [toList_data, toList_data, ← cmp_less_iff]
    rw [if_pos h0] at h
    omega
theorem rises_last {ps : List ByteArray} {q p : ByteArray} (h : Rises ps) (hl : ps.getLast? = some q) (hq : ltP q p) : ∀ a ∈ ps, ltP a p := by
  intro a ha
  have hne : ps ≠ [] := by rintro rfl; simp at ha
  have hg : ps.getLast hne = q := by rw [List.getLast?_eq_some_getLast hne] at hl; injection hl
  have hs : ps = ps.dropLast ++ [q] := by rw [← hg, List.dropLast_concat_getLast]
  unfold Rises at h
  rw [hs] at h ha
  rw [List.pairwise_append] at h
  rcases List.mem_append.mp ha with ha | ha
  · exact ltP_trans (h.2.2 a ha q (by simp)) hq
  · simp at ha; subst ha; exact hq
theorem rises_fold : ∀ (m : List LMark) (prev : Option LMark) (out : List ByteArray), out.getLast? = prev.map LMark.place → Rises out → marksFault prev m = 0 → Rises (m.foldl plStep out) := by
  intro m
  induction m with
  | nil => intro prev out _ h _; exact h
  | cons x m ih =>
    intro prev out hl hr hf
    rw [marksFault_cons] at hf
    by_cases h1 : markErr x ≠ 0
    · rw [if_pos h1] at hf; exact absurd hf h1
    rw [if_neg h1] at hf
    by_cases h2 : mClash prev x = true
    · rw [if_pos h2] at hf; omega
    rw [if_neg h2] at hf
    show Rises (m.foldl plStep (plStep out x))
    by_cases h3 : out.getLast? = some x.place
    · have : plStep out x = out := by unfold plStep; rw [if_pos h3]
      rw [this]
      exact ih (some x) out h3 hr hf
    · have : plStep out x = out ++ [x.place] := by unfold plStep; rw [if_neg h3]
      rw [this]
      refine ih (some x) _ (by simp) ?_ hf
      cases prev with
      | none =>
        have : out = [] := by simpa using hl
        subst this
        simp [Rises]
      | some p =>
        have hl' : out.getLast? = some p.place := hl
        have h4 : ¬ 0 ≤ ordM p x := by intro h; apply h2; simp [mClash, h]
        rcases ord_place h4 with h5 | h5
        · unfold Rises
          rw [List.pairwise_append]
          refine ⟨hr, by simp, fun a ha b hb => ?_⟩
          simp at hb; subst hb
          exact rises_last hr hl' h5 a ha
        · rw [h5] at hl'; exact absurd hl' h3
theorem rises_places {m : List LMark} (h : marksErr m = 0) : Rises (places m) := by
  unfold marksErr at h
  by_cases h1 : 40 < m.length
  · rw [if_pos h1] at h; omega
  · rw [if_neg h1] at h
    exact rises_fold m none [] rfl (by simp [Rises]) h

section
variable {l : List LLeaf} {ps : List ByteArray}
theorem ahead_mono {p q : ByteArray} (h : ltP p q) : ahead l p ≤ ahead l q := by
  unfold ahead
  induction l with
  | nil => simp
  | cons x l ih =>
    simp only [List.filter_cons]
    by_cases h1 : Op.bytesLess x.place.toList p.toList = true
    · rw [if_pos h1, if_pos (less_trans _ _ _ h1 h)]; simpa using ih
    · rw [if_neg h1]
      by_cases h2 : Op.bytesLess x.place.toList q.toList = true
      · rw [if_pos h2]; simp only [List.length_cons]; omega
      · rw [if_neg h2]; exact ih
theorem seen_mono {i j : Nat} (h : i ≤ j) : (textL (l.take i)).length ≤ (textL (l.take j)).length := by
  have h1 : l.take i = (l.take j).take i := by rw [List.take_take, Nat.min_eq_left h]
  rw [h1]
  have h2 : textL (l.take j) = textL ((l.take j).take i) ++ textL ((l.take j).drop i) := by
    unfold textL
    rw [← List.map_append, ← List.filter_append, List.take_append_drop]
  rw [h2, List.length_append]; omega
theorem fr_le (k : Nat) : fr l ps k ≤ (textL l).length := by
  have := seen_mono (l := l) (i := ahead l (plAt ps k)) (j := l.length) (by unfold ahead; exact List.length_filter_le _ _)
  rw [List.take_length] at this
  exact this
theorem plAt_lt (h : Rises ps) {i j : Nat} (hij : i < j) (hj : j ≤ ps.length) (hi : 0 < i) : ltP (plAt ps i) (plAt ps j) := by
  obtain ⟨a, rfl⟩ : ∃ a, i = a + 1 := ⟨i - 1, by omega⟩
  obtain ⟨b, rfl⟩ : ∃ b, j = b + 1 := ⟨j - 1, by omega⟩
  have e : ∀ x (hx : x < ps.length), plAt ps (x + 1) = ps[x] := fun x hx => by unfold plAt; simp [hx]
  rw [e a (by omega), e b (by omega)]
  exact List.pairwise_iff_getElem.mp h a b (by omega) (by omega) (by omega)
theorem fr_mono (h : Rises ps) {i j : Nat} (hij : i ≤ j) (hj : j ≤ ps.length) : fr l ps i ≤ fr l ps j := by
  rcases Nat.eq_zero_or_pos i with h0 | h0
  · subst h0; rw [fr_zero]; omega
  rcases Nat.lt_or_eq_of_le hij with h1 | h1
  · exact seen_mono (ahead_mono (plAt_lt h h1 hj h0))
  · subst h1; omega
/-- Where a stretch ends. -/
def endOf (l : List LLeaf) (ps : List ByteArray) (k : Nat) : Nat := if k < ps.length then fr l ps (k + 1) else (textL l).length
theorem strL_len : (strL l ps).length = ps.length + 1 := by simp [strL, preL_len]
theorem strL_at {k : Nat} (hk : k ≤ ps.length) : (strL l ps)[k]? = some ⟨plAt ps k, fr l ps k, (endOf l ps k : Int) - fr l ps k⟩ := by
  unfold strL endOf
  rcases Nat.lt_or_eq_of_le hk with h1 | h1
  · rw [List.getElem?_append_left (by rw [preL_len]; exact h1), if_pos h1]
    simp [preL, h1, stAt]
  · subst h1
    rw [List.getElem?_append_right (by rw [preL_len]; exact Nat.le_refl _), if_neg (by omega), preL_len]
    simp
theorem fr_end (h : Rises ps) {k : Nat} (hk : k ≤ ps.length) : fr l ps k ≤ endOf l ps k := by
  unfold endOf
  split
  · exact fr_mono h (by omega) (by omega)
  · exact fr_le k
theorem end_le (k : Nat) : endOf l ps k ≤ (textL l).length := by
  unfold endOf
  split
  · exact fr_le _
  · omega
end
end Go.Proofs.Ytgkfmpkankjkdaa
/- dir.Slice, Locate, Of, walked. -/
namespace Go.Proofs.Ytgkfmpkankjkdaa
open Go.RowKit
set_option linter.unusedVariables false

/-- One stretch of a book that is right. -/
structure StOk (l : List LLeaf) (s : LStr) (f n : Nat) : Prop where
  from_ : s.from_ = (f : Int)
  long : s.long = (n : Int)
  in_ : f + n ≤ (textL l).length
def StrsOk (l : List LLeaf) (ss : List LStr) : Prop := ∀ k (hk : k < ss.length), ∃ f n : Nat, StOk l ss[k] f n
theorem strs_ok {l : List LLeaf} {m : List LMark} (h : dirErr l m = 0) : StrsOk l (strL l (places m)) := by
  have hm0 : marksErr m = 0 := by
    unfold dirErr at h
    by_cases h1 : bookErr l = 0
    · rw [if_neg (fun x => x h1)] at h; exact h
    · rw [if_pos h1] at h; exact absurd h h1
  intro k hk
  rw [strL_len] at hk
  have h1 := strL_at (l := l) (ps := places m) (k := k) (by omega)
  have h2 := fr_end (l := l) (rises_places hm0) (k := k) (by omega)
  have h3 := end_le (l := l) (ps := places m) k
  have h4 : (strL l (places m))[k]'(by rw [strL_len]; exact hk) = ⟨plAt (places m) k, fr l (places m) k, (endOf l (places m) k : Int) - fr l (places m) k⟩ := by
    rw [List.getElem?_eq_getElem (by rw [strL_len]; exact hk)] at h1
    injection h1
  refine ⟨fr l (places m) k, endOf l (places m) k - fr l (places m) k, ?_, ?_, by omega⟩
  · rw [h4]
  · rw [h4]; show ((_ : Int) - _) = _; omega
theorem Own.str {w : World} {B g c : Nat} {ss : List LStr} (h : Own w B 52 3 (some ⟨g, 0, none⟩) ss.length c (scells ss)) {k : Nat} (hk : k < ss.length) :
    w.cell? ⟨g, k * 3, none⟩ = some (.string ss[k].place) ∧ w.cell? ⟨g, k * 3 + 1, none⟩ = some (.int .i64 ss[k].from_) ∧ w.cell? ⟨g, k * 3 + 2, none⟩ = some (.int .i64 ss[k].long) := by
  refine ⟨?_, ?_, ?_⟩
  · rw [h.cellAt (by omega), show k * 3 = k * 3 + 0 from rfl, scells_at ss k 0 hk (by omega)]; rfl
  · rw [h.cellAt (by omega), scells_at ss k 1 hk (by omega)]; rfl
  · rw [h.cellAt (by omega), scells_at ss k 2 hk (by omega)]; rfl
def sliceErr (l : List LLeaf) (m : List LMark) (i : Int) : Int := if dirErr l m ≠ 0 then dirErr l m else if i < 0 ∨ ((strL l (places m)).length : Int) ≤ i then 1 else 0
def SlicePost (w : World) (s : ByteArray) (n : Int) (e : Ending) (w' : World) : Prop := e = .returned (.tuple #[.string s, errV n]) ∧ Below w.heap.size w w'
theorem DirIn.drew {w : World} {A A2 : Option Addr} {c c2 : Nat} {l : List LLeaf} {m : List LMark} (h : DirIn w A c l A2 c2 m) : DirIn w.drew A c l A2 c2 m := ⟨h.rl, h.rm, h.sl, h.sm, h.nl, h.nm, h.cl⟩
section
variable {w : World} {A A2 : Option Addr} {c c2 : Nat} {l : List LLeaf} {m : List LMark}
set_option maxRecDepth 100000 in
set_option maxHeartbeats 2000000 in
theorem slice_in (H : DirIn w A c l A2 c2 m) (h : dirErr l m = 0) (i : Nat) (hi : i < (strL l (places m)).length) (f n : Nat) (hst : StOk l (strL l (places m))[i] f n) :
    Calls Try.prog 14 #[.slice A l.length c, .slice A2 m.length c2, .int .i64 i] w (SlicePost w ((textOf l).extract f (f + n)) 0) := by
  have hb0 : bookErr l = 0 := by
    unfold dirErr at h
    by_cases h1 : bookErr l = 0
    · exact h1
    · rw [if_pos h1] at h; exact h
  have ok := book_ok hb0
  have HS := Lib.hid (fun w (H : DirIn w A c l A2 c2 m) => stretches_ok H h)
  have HT := Lib.hid (fun w (H : DirIn w A c l A2 c2 m) => textOf_any w A c l H.rl ok.fit (by have := ok.few; omega))
  have HI := Lib.hid H
  have hlen : (textL l).length ≤ 300 := by have := textL_le l; have := ok.few; omega
  have hts : (textOf l).size = (textL l).length := strOf_size _
  have hin := hst.in_
  rw [← hts] at hlen hin
  have ss_le : (strL l (places m)).length ≤ 100 := by rw [strL_len]; have := places_le m m.length (Nat.le_refl _); rw [List.take_length] at this; have := marks_few (m := m) (by unfold dirErr at h; rw [if_neg (fun x => x hb0)] at h; exact h); omega
  have HST := Lib.hid hst
  clear H h hb0 ok hts hst
  generalize strL l (places m) = ss at *
  go_enter Try.func14, Try.ntmps14
  go_wp2_with fail
  refine (HS.out _ HI.out).mono ?_
  rintro e w1 ⟨V, cv, rfl, hO, hb1⟩
  obtain ⟨g, rfl, hg1, hg2⟩ := hO.head (by omega)
  obtain ⟨e0, e1, e2⟩ := hO.str hi
  rw [HST.out.from_] at e1
  rw [HST.out.long] at e2
  have HI1 := Lib.hid (HI.out.below hb1)
  have HO := Lib.hid hO
  have HB1 := Lib.hid hb1
  clear hO hb1
  generalize ss[i] = x at *
  generalize ss.length = sn at *
  have i0 : (0 : Int) ≤ (i : Int) := by omega
  have i1 : (i : Int) < (sn : Int) := by omega
  have g0 : decide ((i : Int) < 0) = false := by simp
  have g1 : decide ((sn : Int) ≤ (i : Int)) = false := by simp; omega
  have g2 : decide ((i : Int) ≥ (sn : Int)) = false := by simp; omega
  generalize textOf l = tx at *
  have f0 : (0 : Int) ≤ (f : Int) := by omega
  have f1 : (f : Int) ≤ (f : Int) + (n : Int) := by omega
  have f2 : (f : Int) + (n : Int) ≤ (tx.size : Int) := by omega
  have hw : IntKind.i64.wrap ((f : Int) + (n : Int)) = (f : Int) + (n : Int) := by rw [IntWalk.i64_in _ (by omega)]
  have t2 : ((f : Int) + (n : Int)).toNat = f + n := by omega
  have t1 : (f : Int).toNat = f := by omega
  go_wp2_with fail
  go_region_held3 (fun w' => w'.cell? ⟨g, i * 3 + 1, none⟩ = some (.int .i64 f) ∧ w'.cell? ⟨g, i * 3 + 2, none⟩ = some (.int .i64 n))
    (first
      | go_keep
      | (refine ⟨?_, ?_⟩ <;> assumption))
    (first
      | (go_at_call 24; refine (HT.out _ HI1.out.drew).mono ?_; rintro e3 w2 ⟨rfl, hb2'⟩; have hb2 : Below w1.heap.size w1 w2 := below_of_drew hb2'; have k1 : w2.cell? ⟨g, i * 3 + 1, none⟩ = some (.int .i64 f) := (hb2.cell hg2).trans e1; have k2 : w2.cell? ⟨g, i * 3 + 2, none⟩ = some (.int .i64 n) := (hb2.cell hg2).trans e2; have HB2 := Lib.hid (HB1.out.trans (hb2.mono HB1.out.size)); clear hb2 hb2'))
  go_wp2_with fail
  go_ret2
  exact ⟨rfl, HB2.out⟩
def hit (s : LStr) (off : Int) : Bool := decide (s.from_ ≤ off) && decide (off - s.from_ < s.long)
def LocPost (w : World) (ss : List LStr) (off : Int) (e : Ending) (w' : World) : Prop :=
  ((∃ k, ∃ hk : k < ss.length, hit ss[k] off = true ∧ e = .returned (.tuple #[.int .i64 k, .int .i64 (off - ss[k].from_), .nilIface])) ∨ ((∀ k (hk : k < ss.length), hit ss[k] off = false) ∧ e = .returned (.tuple #[.int .i64 0, .int .i64 0, errV 1]))) ∧ Below w.heap.size w w'
def LocLoop (w : World) (ss : List LStr) (off : Int) (g cv : Nat) (i : Value) (wr : World) : Prop :=
  ∃ k : Nat, k ≤ ss.length ∧ i = .int .i64 k ∧ Hid (Own wr w.heap.size 52 3 (some ⟨g, 0, none⟩) ss.length cv (scells ss)) ∧ Hid (Below w.heap.size w wr) ∧ Hid (∀ j (hj : j < ss.length), j < k → hit ss[j] off = false)
set_option maxRecDepth 100000 in
set_option maxHeartbeats 2000000 in
theorem locate_any (H : DirIn w A c l A2 c2 m) (h : dirErr l m = 0) (off : Int) (ho : -9223372036854775808 ≤ off ∧ off ≤ 9223372036854775807) :
    Calls Try.prog 12 #[.slice A l.length c, .slice A2 m.length c2, .int .i64 off] w (LocPost w (strL l (places m)) off) := by
  have HS := Lib.hid (fun w (H : DirIn w A c l A2 c2 m) => stretches_ok H h)
  have HK := Lib.hid (strs_ok h)
  have HI := Lib.hid H
  have hln : (strL l (places m)).length ≤ 100 := by
    have hm0 : marksErr m = 0 := by
      unfold dirErr at h
      by_cases h1 : bookErr l = 0
      · rw [if_neg (fun x => x h1)] at h; exact h
      · rw [if_pos h1] at h; exact absurd h h1
    rw [strL_len]; have := places_le m m.length (Nat.le_refl _); rw [List.take_length] at this; have := marks_few hm0; omega
  have hl0 : 0 < (strL l (places m)).length := by rw [strL_len]; omega
  have hT : (textL l).length ≤ 300 := by
    have hb0 : bookErr l = 0 := by
      unfold dirErr at h
      by_cases h1 : bookErr l = 0
      · exact h1
      · rw [if_pos h1] at h; exact h
    have := textL_le l; have := (book_ok hb0).few; omega
  obtain ⟨ho1, ho2⟩ := ho
  clear H h
  generalize strL l (places m) = ss at *
  go_enter Try.func12, Try.ntmps12
  go_wp2_with fail
  refine (HS.out _ HI.out).mono ?_
  rintro e w1 ⟨V, cv, rfl, hO, hb1⟩
  obtain ⟨g, rfl, hg1, hg2⟩ := hO.head (by omega)
  have HO := Lib.hid hO
  have HB1 := Lib.hid hb1
  clear hO hb1 hg2 hl0
  go_wp2_with fail
  go_loopw [24] (fun i wr => LocLoop w ss off g cv i wr) (fun i _ => ss.length - (intOf i).toNat)
  case atStart => exact ⟨0, by omega, rfl, HO, HB1, Lib.hid (fun j _ h => absurd h (by omega))⟩
  case round =>
    obtain ⟨k, hk, rfl, HOr, HBr, HN⟩ := hrel
    by_cases hkn : k < ss.length
    · obtain ⟨e0, e1, e2⟩ := HOr.out.str hkn
      obtain ⟨f, n, hst⟩ := HK.out k hkn
      rw [hst.from_] at e1
      rw [hst.long] at e2
      have hfT : f + n ≤ 300 := by have := hst.in_; omega
      have hhit : hit ss[k] off = (decide ((f : Int) ≤ off) && decide (off - (f : Int) < (n : Int))) := by unfold hit; rw [hst.from_, hst.long]
      have HH := Lib.hid hhit
      have HFr : Hid (ss[k].from_ = (f : Int)) := hst.from_
      have hlt : (k : Int) < (ss.length : Int) := by omega
      clear hst hhit
      generalize hpk : ss[k].place = p at e0
      clear hpk
      have HBa := Lib.hid (HBr.out.alloc HBr.out.size (.cells #[.string p, .int .i64 f, .int .i64 n] 52))
      have HOa := Lib.hid (HOr.out.alloc (.cells #[.string p, .int .i64 f, .int .i64 n] 52))
      have HBox := Lib.hid (Blk.new wr 52 #[.string p, .int .i64 f, .int .i64 n])
      have d1 : (wr.alloc (.cells #[.string p, .int .i64 f, .int .i64 n] 52)).cell? ⟨wr.heap.size, 1, none⟩ = some (.int .i64 f) := by rw [HBox.out.cell]; rfl
      have d2 : (wr.alloc (.cells #[.string p, .int .i64 f, .int .i64 n] 52)).cell? ⟨wr.heap.size, 2, none⟩ = some (.int .i64 n) := by rw [HBox.out.cell]; rfl
      have HNX : Hid (hit ss[k] off = false → ∀ j (hj : j < ss.length), j < k + 1 → hit ss[j] off = false) := fun hf j hj h1 => by
        rcases Nat.lt_or_eq_of_le (Nat.le_of_lt_succ h1) with h2 | h2
        · exact HN.out j hj h2
        · subst h2; exact hf
      by_cases hg0 : (f : Int) ≤ off
      · have hw : IntKind.i64.wrap (off - (f : Int)) = off - (f : Int) := by rw [IntWalk.i64_in _ (by omega)]
        have t0 : decide ((f : Int) ≤ off) = true := by simp; omega
        have t1 : decide (off ≥ (f : Int)) = true := by simp; omega
        by_cases hg1' : off - (f : Int) < (n : Int)
        · have hh : hit ss[k] off = true := by rw [HH.out, t0]; simpa using hg1'
          have HHt := Lib.hid hh
          have t2 : decide (off - (f : Int) < (n : Int)) = true := by simpa using hg1'
          clear hh
          go_wp2_with fail
          go_quiet (fail)
          go_wp2_with fail
          go_ret3
          exact ⟨.inl ⟨k, hkn, HHt.out, by rw [HFr.out]; rfl⟩, below_drewN HBa.out _⟩
        · have t2 : decide (off - (f : Int) < (n : Int)) = false := by simpa using hg1'
          have hh : hit ss[k] off = false := by rw [HH.out, t2]; simp
          have HHt := Lib.hid hh
          clear hh
          go_wp2_with fail
          go_roundw
          case rel => exact ⟨k + 1, by omega, by go_num, HOa, HBa, Lib.hid (HNX.out HHt.out)⟩
          case measure => simp [intOf]; omega
      · have t0 : decide ((f : Int) ≤ off) = false := by simpa using hg0
        have t1 : decide (off ≥ (f : Int)) = false := by simpa using hg0
        have hh : hit ss[k] off = false := by rw [HH.out, t0]; rfl
        have HHt := Lib.hid hh
        clear hh
        go_wp2_with fail
        go_roundw
        case rel => exact ⟨k + 1, by omega, by go_num, HOa, HBa, Lib.hid (HNX.out HHt.out)⟩
        case measure => simp [intOf]; omega
    · have hd : decide ((k : Int) < (ss.length : Int)) = false := by simp; omega
      go_wp2_with fail
      go_ret3
      exact ⟨.inr ⟨fun j hj => HN.out j hj (by omega), rfl⟩, HBr.out⟩
def OfPost (w : World) (ss : List LStr) (p : ByteArray) (e : Ending) (w' : World) : Prop :=
  (∃ k, ∃ hk : k < ss.length, (k = 0 ∨ ¬ ltP p ss[k].place) ∧ (∀ j (hj : j < ss.length), k < j → ltP p ss[j].place) ∧ e = .returned (.tuple #[.int .i64 k, .nilIface])) ∧ Below w.heap.size w w'
def OfLoop (w : World) (ss : List LStr) (p : ByteArray) (g cv : Nat) (i : Value) (wr : World) : Prop :=
  ∃ k : Nat, k < ss.length ∧ i = .int .i64 k ∧ Hid (Own wr w.heap.size 52 3 (some ⟨g, 0, none⟩) ss.length cv (scells ss)) ∧ Hid (Below w.heap.size w wr) ∧ Hid (∀ j (hj : j < ss.length), k < j → ltP p ss[j].place)
end
end Go.Proofs.Ytgkfmpkankjkdaa
/- Arguments opened: leafs and marks. Plain lemmas. Conditions: none of our own. -/
namespace Go.Proofs.Ytgkfmpkankjkdaa
open Go.RowKit Go.WideShapes Go.ChangeShapes Go.Deep
set_option linter.unusedVariables false

def LLeaf.In (x : LLeaf) : Prop := x.place.size ≤ maxLen ∧ I64 x.letter
def LMark.In (x : LMark) : Prop := x.place.size ≤ maxLen ∧ x.dot.In
theorem cellsLeaf : Try.prog.cellsOf 79 = 3 := by kernel_rfl
theorem cellsMark : Try.prog.cellsOf 82 = 3 := by kernel_rfl
theorem cellsBool : Try.prog.cellsOf 4 = 1 := by kernel_rfl
section
variable {H : Type} {enc : TypeId × Value → H} {w : World} {base : Nat} {spare : Nat → Bool} {held : Bool}
set_option maxRecDepth 100000 in
theorem open_leaf {fuel : Nat} {cs : List Value} {x : DataW H × List MemPlace} (h : DataW.trod enc Try.prog w base spare held fuel 79 cs = some x) : ∃ y : LLeaf, cs = y.cells ∧ y.In := by
  have hT := Try.underlying79
  have hl := trod_len hT h
  rw [cellsLeaf] at hl
  match cs, hl with
  | [c0, c1, c2], _ =>
    obtain ⟨n0, y0, g0⟩ : ∃ n y, DataW.trod enc Try.prog w base spare held n 9 [c0] = some y := trod_field hT h 0 _ rfl 1 cellsStr
    obtain ⟨n1, y1, g1⟩ : ∃ n y, DataW.trod enc Try.prog w base spare held n 3 [c1] = some y := trod_field hT h 1 _ rfl 1 cellsInt
    obtain ⟨n2, y2, g2⟩ : ∃ n y, DataW.trod enc Try.prog w base spare held n 4 [c2] = some y := trod_field hT h 2 _ rfl 1 cellsBool
    obtain ⟨a0, e0, _, w0⟩ := DataW.trod_string Try.underlying9 g0
    obtain ⟨a1, e1, _, w1⟩ := DataW.trod_int Try.underlying3 g1
    obtain ⟨a2, e2, _⟩ := DataW.trod_bool Try.underlying4 g2
    simp at e0 e1 e2
    subst e0 e1 e2
    exact ⟨⟨a0, a1, a2⟩, rfl, w0, i64_of_wf w1⟩
set_option maxRecDepth 100000 in
theorem open_mark {fuel : Nat} {cs : List Value} {x : DataW H × List MemPlace} (h : DataW.trod enc Try.prog w base spare held fuel 82 cs = some x) : ∃ y : LMark, cs = y.cells ∧ y.In := by
  have hT := Try.underlying82
  have hl := trod_len hT h
  rw [cellsMark] at hl
  match cs, hl with
  | [c0, c1, c2], _ =>
    obtain ⟨n0, y0, g0⟩ : ∃ n y, DataW.trod enc Try.prog w base spare held n 9 [c0] = some y := trod_field hT h 0 _ rfl 1 cellsStr
    obtain ⟨n1, y1, g1⟩ : ∃ n y, DataW.trod enc Try.prog w base spare held n 32 [c1, c2] = some y := trod_field hT h 1 _ rfl 2 cellsDot
    obtain ⟨a0, e0, _, w0⟩ := DataW.trod_string Try.underlying9 g0
    obtain ⟨d, e1, hd⟩ := open_dot g1
    simp at e0
    have e1' : [c1, c2] = [.int .i64 d.who, .int .i64 d.n] := e1
    simp at e1'
    obtain ⟨rfl, rfl⟩ := e1'
    subst e0
    exact ⟨⟨a0, d⟩, rfl, w0, hd⟩
set_option maxRecDepth 100000 in
theorem arg_leafs {r : Reach} {b0 : Nat} {v : Value} {d : DataW H} {p : List MemPlace} (hv : Value.okWide Try.prog w r b0 43 v) (h : DataW.Trod enc Try.prog w base spare held 43 v d p) :
    ∃ (A : Option Addr) (cap : Nat) (l : List LLeaf), v = .slice A l.length cap ∧ Reads w w.heap.size 3 A l.length (lcells l) ∧ (∀ y ∈ l, y.In) ∧ l.length ≤ cap ∧ cap ≤ maxLen := by
  obtain ⟨a, len, c, rfl⟩ := okWide_slice Try.underlying43 hv
  obtain ⟨fuel, hf⟩ := h
  obtain ⟨A, cap, l, e, hr⟩ := open_list LLeaf.cells LLeaf.In Try.underlying43 cellsLeaf (by decide) LLeaf.cells_len (fun _ _ _ h => open_leaf h) hf
  refine ⟨A, cap, l, ?_, hr⟩
  have e' : [Value.slice a len c] = [.slice A l.length cap] := e
  injection e'
set_option maxRecDepth 100000 in
theorem arg_marks {r : Reach} {b0 : Nat} {v : Value} {d : DataW H} {p : List MemPlace} (hv : Value.okWide Try.prog w r b0 45 v) (h : DataW.Trod enc Try.prog w base spare held 45 v d p) :
    ∃ (A : Option Addr) (cap : Nat) (l : List LMark), v = .slice A l.length cap ∧ Reads w w.heap.size 3 A l.length (mcells l) ∧ (∀ y ∈ l, y.In) ∧ l.length ≤ cap ∧ cap ≤ maxLen := by
  obtain ⟨a, len, c, rfl⟩ := okWide_slice Try.underlying45 hv
  obtain ⟨fuel, hf⟩ := h
  obtain ⟨A, cap, l, e, hr⟩ := open_list LMark.cells LMark.In Try.underlying45 cellsMark (by decide) LMark.cells_len (fun _ _ _ h => open_mark h) hf
  refine ⟨A, cap, l, ?_, hr⟩
  have e' : [Value.slice a len c] = [.slice A l.length cap] := e
  injection e'
set_option maxRecDepth 100000 in
theorem arg_mark {r : Reach} {b0 : Nat} {v : Value} {d : DataW H} {p : List MemPlace} (hv : Value.okWide Try.prog w r b0 82 v) (h : DataW.Trod enc Try.prog w base spare held 82 v d p) :
    ∃ y : LMark, v = .agg #[.string y.place, .int .i64 y.dot.who, .int .i64 y.dot.n] ∧ y.In := by
  obtain ⟨cs, rfl, _⟩ := okWide_struct Try.underlying82 hv
  obtain ⟨fuel, hf⟩ := h
  obtain ⟨y, e, hg⟩ := open_mark hf
  refine ⟨y, ?_, hg⟩
  have : cs = y.cells.toArray := Array.ext' e
  rw [this]
  rfl
end
end Go.Proofs.Ytgkfmpkankjkdaa
/- A letter is in the stretch in which its place is: plain. -/
namespace Go.Proofs.Ytgkfmpkankjkdaa
set_option linter.unusedVariables false
section
variable {l : List LLeaf} {ps : List ByteArray}
theorem ahead_split (i : Nat) (q : ByteArray) : ahead l q = ahead (l.take i) q + ahead (l.drop i) q := by
  unfold ahead
  rw [← List.length_append, ← List.filter_append, List.take_append_drop]
theorem ahead_gt (hr : Rising l) {n : Nat} (hn : n < l.length) {q : ByteArray} (h : ltP l[n].place q) : n + 1 ≤ ahead l q := by
  rw [ahead_split (n + 1) q]
  have h1 : ahead (l.take (n + 1)) q = n + 1 := by
    unfold ahead
    rw [List.filter_eq_self.2]
    · rw [List.length_take]; omega
    · intro x hx
      obtain ⟨j, hj, rfl⟩ := List.getElem_of_mem hx
      rw [List.length_take] at hj
      rw [List.getElem_take]
      rcases Nat.lt_or_eq_of_le (show j ≤ n by omega) with h2 | h2
      · exact ltP_trans (rising_lt hr j n (by omega) hn h2) h
      · subst h2; exact h
  omega
theorem ahead_le' (hr : Rising l) {n : Nat} (hn : n < l.length) {q : ByteArray} (h : ¬ ltP l[n].place q) : ahead l q ≤ n := by
  rw [ahead_split n q]
  have h1 : ahead (l.drop n) q = 0 := by
    unfold ahead
    rw [List.length_eq_zero_iff, List.filter_eq_nil_iff]
    intro x hx hlt
    obtain ⟨j, hj, rfl⟩ := List.getElem_of_mem hx
    rw [List.length_drop] at hj
    rw [List.getElem_drop] at hlt
    apply h
    rcases Nat.eq_zero_or_pos j with h2 | h2
    · subst h2; exact hlt
    · exact ltP_trans (rising_lt hr n (n + j) hn (by omega) (by omega)) hlt
  have h2 : ahead (l.take n) q ≤ n := by
    unfold ahead
    have := List.length_filter_le (fun x : LLeaf => Op.bytesLess x.place.toList q.toList) (l.take n)
    rw [List.length_take] at this; omega
  omega
/-- The stretch of a letter is the one of its offset. -/
theorem of_is (hr : Rising l) (hp : Rises ps) {n o k i : Nat} (hn : n < l.length) (hs : seenB l[n] = true) (ho : (textL (l.take n)).length = o) (hk : k ≤ ps.length) (h1 : fr l ps k ≤ o) (h2 : o < endOf l ps k)
    (hi : i ≤ ps.length) (a1 : i = 0 ∨ ¬ ltP l[n].place (plAt ps i)) (a2 : ∀ j, j ≤ ps.length → i < j → ltP l[n].place (plAt ps j)) : i = k := by
  rcases Nat.lt_trichotomy i k with h | h | h
  · exfalso
    have h3 := ahead_gt hr hn (a2 k hk h)
    have h4 := seen_mono (l := l) h3
    rw [textL_take hn, if_pos hs, List.length_append, ho] at h4
    unfold fr frOf at h1
    simp at h4
    omega
  · exact h
  · exfalso
    have h3 : ¬ ltP l[n].place (plAt ps i) := by rcases a1 with h0 | h0; · omega
                                                 · exact h0
    have h4 := seen_mono (l := l) (ahead_le' hr hn h3)
    rw [ho] at h4
    have h5 := fr_mono (l := l) hp (i := k + 1) (j := i) (by omega) hi
    unfold endOf at h2
    rw [if_pos (by omega)] at h2
    unfold fr frOf at h5
    unfold fr frOf at h2
    omega
end
end Go.Proofs.Ytgkfmpkankjkdaa
/- book.At, walked. Conditions: places that an int may count. -/
namespace Go.Proofs.Ytgkfmpkankjkdaa
open Go.RowKit
set_option linter.unusedVariables false
end Go.Proofs.Ytgkfmpkankjkdaa
/- ALL OF IT, IN ORDER: the law DirWhole answers true. Conditions: none. -/
namespace Go.Proofs.Ytgkfmpkankjkdaa
open Go.RowKit Go.WideShapes Go.ChangeShapes Go.ChangeAt
set_option linter.unusedVariables false
namespace lawDirWhole

def oneL : List LLeaf := [⟨⟨#[102, 98]⟩, 104, false⟩, ⟨⟨#[110, 98]⟩, 105, false⟩]
def twoL : List LMark := [⟨⟨#[110, 98]⟩, ⟨1, 1⟩⟩]
theorem one_ok : dirErr oneL twoL = 0 := by decide +kernel
theorem one_len : (strL oneL (places twoL)).length = 2 := by decide +kernel
theorem one_st : StOk oneL ((strL oneL (places twoL))[1]'(by rw [one_len]; decide)) 1 1 := ⟨by decide +kernel, by decide +kernel, by decide +kernel⟩
theorem one_slice : (textOf oneL).extract 1 (1 + 1) = ⟨#[105]⟩ := by decide +kernel
theorem one_in (w : World) (A A2 : Option Addr) (h : Reads w w.heap.size 3 A 2 (lcells oneL)) (h2 : Reads w w.heap.size 3 A2 1 (mcells twoL)) : DirIn w A 2 oneL A2 1 twoL :=
  ⟨h, h2, by intro x hx; simp [oneL] at hx; rcases hx with rfl | rfl <;> decide, by intro x hx; simp [twoL] at hx; subst hx; decide, by decide, by decide, by decide⟩
theorem reads_blk {W : World} {g n size : Nat} {t : TypeId} {cs : Array Value} (h : Blk W g t cs) (hl : cs.toList.length = n * size) : Reads W W.heap.size size (some ⟨g, 0, none⟩) n cs.toList := by
  refine ⟨hl, fun _ => ⟨_, rfl, h.lt, fun j u hu => ?_⟩⟩
  have e1 : (⟨g, 0, none⟩ : Addr).add j = ⟨g, j, none⟩ := by
    unfold Addr.add
    by_cases hj : j = 0 <;> simp [hj]
  rw [e1, h.cell]
  simpa using hu
theorem blk_new2 (w : World) (o : Obj) (t : TypeId) (cs : Array Value) : Blk ((w.alloc o).alloc (.cells cs t)) (w.heap.size + 1) t cs := by
  have h := Blk.new (w.alloc o) t cs
  rwa [show (w.alloc o).heap.size = w.heap.size + 1 by simp] at h
theorem slice_one (w : World) (A A2 : Option Addr) (h : Reads w w.heap.size 3 A 2 (lcells oneL)) (h2 : Reads w w.heap.size 3 A2 1 (mcells twoL)) :
    Calls Try.prog 14 #[.slice A 2 2, .slice A2 1 1, .int .i64 1] w (SlicePost w ⟨#[105]⟩ 0) := by
  have := slice_in (one_in w A A2 h h2) one_ok 1 (by rw [one_len]; decide) 1 1 one_st
  rw [one_slice] at this
  exact this
theorem ext_list (a : ByteArray) (i j : Nat) : (a.extract i j).data.toList = (a.data.toList.drop i).take (j - i) := by
  rw [ByteArray.data_extract, Array.toList_extract]
theorem ext_join (a : ByteArray) (f n : Nat) : a.extract 0 f ++ a.extract f (f + n) = a.extract 0 (f + n) := by
  refine ByteArray.ext (Array.ext' ?_)
  rw [ByteArray.data_append, Array.toList_append, ext_list, ext_list, ext_list]
  simp only [Nat.sub_zero, List.drop_zero, Nat.add_sub_cancel_left]
  rw [List.take_add]
theorem ext_all (a : ByteArray) : a.extract 0 a.size = a := by
  refine ByteArray.ext (Array.ext' ?_)
  rw [ext_list]
  simp only [Nat.sub_zero, List.drop_zero]
  rw [List.take_of_length_le]
  rw [Array.length_toList]; exact Nat.le_refl _
theorem ext_zero (a : ByteArray) : a.extract 0 0 = ⟨#[]⟩ := by
  refine ByteArray.ext (Array.ext' ?_)
  rw [ext_list]
  simp
theorem mark_places : ∀ (m : List LMark) (prev : Option LMark), marksFault prev m = 0 → ∀ x ∈ m, placeErr x.place = 0 := by
  intro m
  induction m with
  | nil => intro _ _ x hx; simp at hx
  | cons y m ih =>
    intro prev hf x hx
    rw [marksFault_cons] at hf
    by_cases h1 : markErr y ≠ 0
    · rw [if_pos h1] at hf; exact absurd hf h1
    rw [if_neg h1] at hf
    by_cases h2 : mClash prev y = true
    · rw [if_pos h2] at hf; omega
    rw [if_neg h2] at hf
    rcases List.mem_cons.mp hx with rfl | hx
    · by_cases h3 : placeErr x.place = 0
      · exact h3
      · exfalso; apply h1; unfold markErr; rw [if_pos h3]; exact h3
    · exact ih _ hf x hx
theorem mem_fold : ∀ (m : List LMark) (out : List ByteArray) (p : ByteArray), p ∈ m.foldl plStep out → p ∈ out ∨ ∃ x ∈ m, p = x.place := by
  intro m
  induction m with
  | nil => intro out p h; exact .inl h
  | cons y m ih =>
    intro out p h
    rcases ih _ _ h with h1 | ⟨x, hx, h1⟩
    · unfold plStep at h1
      split at h1
      · exact .inl h1
      · rcases List.mem_append.mp h1 with h2 | h2
        · exact .inl h2
        · simp at h2; exact .inr ⟨y, by simp, h2⟩
    · exact .inr ⟨x, by simp [hx], h1⟩
theorem places_pos {m : List LMark} (h : marksErr m = 0) : ∀ p ∈ places m, 0 < p.size := by
  intro p hp
  have hf : marksFault none m = 0 := by
    unfold marksErr at h
    by_cases h1 : 40 < m.length
    · rw [if_pos h1] at h; omega
    · rw [if_neg h1] at h; exact h
  rcases mem_fold m [] p hp with h1 | ⟨x, hx, rfl⟩
  · simp at h1
  · have h2 := mark_places m none hf x hx
    have h3 := (okPlace h2).2.2
    have := h3.1; omega
def stop (l : List LLeaf) (ps : List ByteArray) (k : Nat) : Nat := if k ≤ ps.length then fr l ps k else (textL l).length
theorem stop_succ {l : List LLeaf} {ps : List ByteArray} {k : Nat} (hk : k ≤ ps.length) : stop l ps (k + 1) = endOf l ps k := by
  unfold stop endOf
  by_cases h : k < ps.length
  · rw [if_pos (show k + 1 ≤ ps.length by omega), if_pos h]
  · rw [if_neg (show ¬ k + 1 ≤ ps.length by omega), if_neg h]
def WLoop (w : World) (l : List LLeaf) (ps : List ByteArray) (g cv : Nat) (a i : Value) (wr : World) : Prop :=
  ∃ k : Nat, k ≤ ps.length + 1 ∧ i = .int .i64 k ∧ a = .string ((textOf l).extract 0 (stop l ps k)) ∧ Hid (Own wr w.heap.size 52 3 (some ⟨g, 0, none⟩) (ps.length + 1) cv (scells (strL l ps))) ∧ Hid (Below w.heap.size w wr)
/-- What the loop needs of one stretch. -/
structure Seg (l : List LLeaf) (ps : List ByteArray) (k f n : Nat) (p : ByteArray) : Prop where
  at_ : (strL l ps)[k]? = some ⟨p, f, n⟩
  f_eq : f = stop l ps k
  e_eq : f + n = stop l ps (k + 1)
  le : f + n ≤ (textL l).length
  prev : ∀ j, k = j + 1 → ∃ q, (strL l ps)[j]?.map LStr.place = some q ∧ Op.bytesLess q.toList p.toList = true
theorem Seg.stok {l : List LLeaf} {ps : List ByteArray} {k f n : Nat} {p : ByteArray} (h : Seg l ps k f n p) (hk : k < (strL l ps).length) : StOk l (strL l ps)[k] f n := by
  have h1 := h.at_
  rw [List.getElem?_eq_getElem hk] at h1
  injection h1 with h1
  exact ⟨by rw [h1], by rw [h1], h.le⟩
theorem Seg.cells {w : World} {B g c : Nat} {l : List LLeaf} {ps : List ByteArray} {k f n : Nat} {p : ByteArray} (h : Seg l ps k f n p) (hk : k ≤ ps.length) (ho : Own w B 52 3 (some ⟨g, 0, none⟩) (ps.length + 1) c (scells (strL l ps))) :
    w.cell? ⟨g, k * 3, none⟩ = some (.string p) ∧ w.cell? ⟨g, k * 3 + 1, none⟩ = some (.int .i64 f) ∧ w.cell? ⟨g, k * 3 + 2, none⟩ = some (.int .i64 n) := by
  have hl : (strL l ps).length = ps.length + 1 := strL_len
  rw [← hl] at ho
  have h1 := h.at_
  rw [List.getElem?_eq_getElem (by rw [hl]; omega)] at h1
  injection h1 with h1
  have := ho.str (k := k) (by rw [hl]; omega)
  rwa [h1] at this
theorem cell_place {w : World} {B g c : Nat} {l : List LLeaf} {ps : List ByteArray} {j : Nat} {q : ByteArray} (hj : j < ps.length) (ho : Own w B 52 3 (some ⟨g, 0, none⟩) (ps.length + 1) c (scells (strL l ps))) (hq : (strL l ps)[j]?.map LStr.place = some q) : w.cell? ⟨g, j * 3, none⟩ = some (.string q) := by
  have hl : (strL l ps).length = ps.length + 1 := strL_len
  rw [← hl] at ho
  rw [List.getElem?_eq_getElem (by rw [hl]; omega)] at hq
  have := (ho.str (k := j) (by rw [hl]; omega)).1
  rw [this]
  simpa using hq
theorem seg_ok {l : List LLeaf} {m : List LMark} (hp : Rises (places m)) (h0 : ∀ p ∈ places m, 0 < p.size) {k : Nat} (hk : k ≤ (places m).length) : ∃ f n p, Seg l (places m) k f n p := by
  have h1 := fr_end (l := l) hp hk
  refine ⟨fr l (places m) k, endOf l (places m) k - fr l (places m) k, plAt (places m) k, ?_, ?_, ?_, ?_, ?_⟩
  · rw [strL_at hk]; congr 2; omega
  · unfold stop; rw [if_pos hk]
  · rw [stop_succ hk]; omega
  · have := end_le (l := l) (ps := places m) k; omega
  · rintro j rfl
    refine ⟨plAt (places m) j, by rw [strL_at (by omega)]; rfl, ?_⟩
    rcases Nat.eq_zero_or_pos j with h2 | h2
    · subst h2
      have h3 : plAt (places m) (0 + 1) = (places m)[0]'(by omega) := by unfold plAt; simp [show 0 < (places m).length by omega]
      rw [h3]
      have h4 := h0 _ (List.getElem_mem (show 0 < (places m).length by omega))
      generalize (places m)[0]'(by omega) = q at h4
      show Op.bytesLess (plAt (places m) 0).toList q.toList = true
      have h5 : plAt (places m) 0 = ⟨#[]⟩ := rfl
      rw [h5, toList_data, toList_data]
      have h6 : q.data.toList.length = q.size := by rw [Array.length_toList]; rfl
      generalize q.data.toList = L at h6
      cases L with
      | nil => simp at h6; omega
      | cons a b => rfl
    · exact plAt_lt hp (by omega) hk h2
theorem str_get {l : List LLeaf} {ps : List ByteArray} {k : Nat} (hk : k ≤ ps.length) (h : k < (strL l ps).length) : (strL l ps)[k] = ⟨plAt ps k, fr l ps k, (endOf l ps k : Int) - fr l ps k⟩ := by
  have h1 := strL_at (l := l) hk
  rw [List.getElem?_eq_getElem h] at h1
  injection h1
theorem hit_at {l : List LLeaf} {ps : List ByteArray} {k : Nat} {off : Int} (hk : k ≤ ps.length) (h : k < (strL l ps).length) (hh : hit (strL l ps)[k] off = true) : (strL l ps)[k].from_ = (fr l ps k : Int) ∧ (fr l ps k : Int) ≤ off ∧ off < (endOf l ps k : Int) := by
  rw [str_get hk h] at hh ⊢
  unfold hit at hh
  simp only [Bool.and_eq_true, decide_eq_true_eq] at hh
  exact ⟨rfl, hh.1, by omega⟩
theorem hit_true {l : List LLeaf} {ps : List ByteArray} {k o : Nat} (hk : k ≤ ps.length) (h : k < (strL l ps).length) (h1 : fr l ps k ≤ o) (h2 : o < endOf l ps k) : hit (strL l ps)[k] (o : Int) = true := by
  rw [str_get hk h]
  unfold hit
  simp only [Bool.and_eq_true, decide_eq_true_eq]
  omega
theorem some_hit {l : List LLeaf} {ps : List ByteArray} (hr : Rises ps) {o : Nat} (ho : o < (textL l).length) : ∃ k, k ≤ ps.length ∧ fr l ps k ≤ o ∧ o < endOf l ps k := by
  have step : ∀ j, j ≤ ps.length → (∃ k, k ≤ ps.length ∧ fr l ps k ≤ o ∧ o < endOf l ps k) ∨ fr l ps j ≤ o := by
    intro j
    induction j with
    | zero => intro _; right; rw [fr_zero]; omega
    | succ j ih =>
      intro hj
      rcases ih (by omega) with h | h
      · exact .inl h
      · by_cases h1 : o < endOf l ps j
        · exact .inl ⟨j, by omega, h, h1⟩
        · right
          unfold endOf at h1
          rw [if_pos (by omega)] at h1
          omega
  rcases step ps.length (Nat.le_refl _) with h | h
  · exact h
  · exact ⟨ps.length, Nat.le_refl _, h, by unfold endOf; rw [if_neg (by omega)]; exact ho⟩
end lawDirWhole
end Go.Proofs.Ytgkfmpkankjkdaa
/- Stretches kept by their places: plain. Conditions: none. -/
namespace Go.Proofs.Ytgkfmpkankjkdaa
open Go.RowKit
set_option linter.unusedVariables false
/-- The k-th stretch's text. -/
def segT (l : List LLeaf) (ps : List ByteArray) (k : Nat) : ByteArray := (textOf l).extract (fr l ps k) (endOf l ps k)
/-- What is kept are stretches. -/
def Segs (l : List LLeaf) (ps : List ByteArray) (m : List Kept) : Prop := ∀ x ∈ m, ∃ k, k ≤ ps.length ∧ x.1 = plAt ps k ∧ x.2 = segT l ps k
theorem Segs.nil (l : List LLeaf) (ps : List ByteArray) : Segs l ps [] := by intro x hx; cases hx
theorem plAt_inj {ps : List ByteArray} (hr : Rises ps) (h0 : ∀ p ∈ ps, 0 < p.size) {i j : Nat} (hi : i ≤ ps.length) (hj : j ≤ ps.length) (h : plAt ps i = plAt ps j) : i = j := by
  have pos : ∀ k, 0 < k → k ≤ ps.length → 0 < (plAt ps k).size := fun k hk hkl => by
    obtain ⟨a, rfl⟩ : ∃ a, k = a + 1 := ⟨k - 1, by omega⟩
    have : plAt ps (a + 1) = ps[a]'(by omega) := by unfold plAt; simp [show a < ps.length by omega]
    rw [this]
    exact h0 _ (List.getElem_mem _)
  have zero : (plAt ps 0).size = 0 := rfl
  rcases Nat.lt_trichotomy i j with h1 | h1 | h1
  · exfalso
    rcases Nat.eq_zero_or_pos i with h2 | h2
    · subst h2
      have := pos j h1 hj
      rw [← h, zero] at this; omega
    · have := plAt_lt hr h1 hj h2
      rw [h] at this
      exact ltP_irrefl _ this
  · exact h1
  · exfalso
    rcases Nat.eq_zero_or_pos j with h2 | h2
    · subst h2
      have := pos i h1 hi
      rw [h, zero] at this; omega
    · have := plAt_lt hr h1 hi h2
      rw [h] at this
      exact ltP_irrefl _ this
theorem get_mem {p t : ByteArray} : ∀ {m : List Kept}, get p m = some t → (p, t) ∈ m
  | [], h => by simp [get] at h
  | x :: m, h => by
    obtain ⟨a, b⟩ := x
    unfold get at h
    split at h
    · rename_i h1
      injection h with h
      subst h
      have : a = p := by simpa using h1.symm
      subst this
      simp
    · exact List.mem_cons_of_mem _ (get_mem h)
theorem Segs.get {l : List LLeaf} {ps : List ByteArray} {m : List Kept} (h : Segs l ps m) (hr : Rises ps) (h0 : ∀ p ∈ ps, 0 < p.size) {k : Nat} (hk : k ≤ ps.length) {t : ByteArray} (hg : Go.Proofs.Ytgkfmpkankjkdaa.get (plAt ps k) m = some t) : t = segT l ps k := by
  obtain ⟨j, hj, h1, h2⟩ := h _ (get_mem hg)
  have := plAt_inj hr h0 hk hj h1
  subst this
  exact h2
theorem mem_fit {bud : Int} {x : Kept} : ∀ {m : List Kept}, x ∈ fitK bud m → x ∈ m
  | [], h => h
  | y :: m, h => by
    unfold fitK at h
    split at h
    · exact List.mem_cons_of_mem _ (mem_fit h)
    · exact h
theorem mem_onK {p t : ByteArray} {m : List Kept} {x : Kept} (h : x ∈ onK p t m) : x ∈ m ∨ x = (p, t) := by
  unfold onK at h
  rcases List.mem_append.1 h with h | h
  · unfold offK at h
    exact .inl (List.mem_filter.1 h).1
  · simp at h; exact .inr h
theorem Segs.on {l : List LLeaf} {ps : List ByteArray} {m : List Kept} (h : Segs l ps m) {k : Nat} (hk : k ≤ ps.length) : Segs l ps (onK (plAt ps k) (segT l ps k) m) := fun x hx => by
  rcases mem_onK hx with h1 | h1
  · exact h x h1
  · subst h1; exact ⟨k, hk, rfl, rfl⟩
theorem Segs.load {l : List LLeaf} {ps : List ByteArray} {m : List Kept} (h : Segs l ps m) {k : Nat} (hk : k ≤ ps.length) (bud : Int) : Segs l ps (loadR bud (plAt ps k) (segT l ps k) m) := fun x hx => by
  unfold loadR at hx
  split at hx
  · exact h.on hk x (mem_fit hx)
  · exact h x hx
theorem on_sum {p t : ByteArray} {m : List Kept} (hk : Keys m) (h : Go.Proofs.Ytgkfmpkankjkdaa.get p m = some t) : sumK (onK p t m) = sumK m := by
  rw [sumK_on hk, val_of h]; omega
theorem on_len {p t : ByteArray} {m : List Kept} : (onK p t m).length ≤ m.length + 1 := by
  have h2 := off_len p m
  have h3 : (onK p t m).length = (offK p m).length + 1 := by unfold onK; simp
  omega
end Go.Proofs.Ytgkfmpkankjkdaa

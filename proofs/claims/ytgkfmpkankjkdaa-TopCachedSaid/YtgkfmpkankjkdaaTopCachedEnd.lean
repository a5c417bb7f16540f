/- 4 texts in one: each says ahead of itself what is proved, and its conditions. -/
import Derived.Deep.CutBlock
import Derived.Deep.RegionHeld3
import Derived.Test.YtgkfmpkankjkdaaCacheScene
import Derived.Test.YtgkfmpkankjkdaaCachedLaw
import Derived.Test.YtgkfmpkankjkdaaDocRow
import Derived.Test.YtgkfmpkankjkdaaLift
import Derived.Test.YtgkfmpkankjkdaaOpen
import Derived.Test.YtgkfmpkankjkdaaOpenOps
import Derived.Test.YtgkfmpkankjkdaaStrs
import Derived.Test.YtgkfmpkankjkdaaTopOne
/- A cache, and a row beside it that is not the cache's. Conditions: the numbers are small. -/
namespace Go.Proofs.Ytgkfmpkankjkdaa
open Go.RowKit
set_option linter.unusedVariables false
def TScene (w : World) (b : Nat) (bud : Int) (m : List Kept) (size n : Nat) (V : Option Addr) (xs : List Value) (wr : World) : Prop :=
  ∃ B S r A cap kvs, CacheIs wr B S b bud m r A cap kvs ∧ Below w.heap.size w wr ∧ w.heap.size ≤ B ∧ Reads wr wr.heap.size size V n xs ∧ (0 < n → ∀ g ∈ ob V, g ∉ S)
section
variable {w wr w' : World} {b : Nat} {bud : Int} {m : List Kept} {size n : Nat} {V : Option Addr} {xs : List Value}
theorem TScene.of_cache (h : CScene w b bud m [] wr) (hr : Reads wr wr.heap.size size V n xs) (ho : ∀ g ∈ ob V, ∀ B S r A cap kvs, CacheIs wr B S b bud m r A cap kvs → g ∉ S) : TScene w b bud m size n V xs wr := by
  obtain ⟨B, S, r, A, cap, kvs, h1, h2, h3, h4⟩ := h
  exact ⟨B, S, r, A, cap, kvs, h1, h2, h3, hr, fun _ g hg => ho g hg _ _ _ _ _ _ h1⟩
/-- A row newly made beside a cache. -/
theorem TScene.made (h : CScene w b bud m [] wr) (hb : Below wr.heap.size wr w') {t : TypeId} {c : Nat} (ho : Own w' wr.heap.size t size V n c xs) : TScene w b bud m size n V xs w' := by
  obtain ⟨B, S, r, A, cap, kvs, h1, h2, h3, h4⟩ := h
  refine ⟨B, S, r, A, cap, kvs, h1.below hb, h2.trans (hb.mono h2.size), h3, ho.reads, fun _ g hg hm => ?_⟩
  have h5 := (ho.lt g hg).1
  have h6 := (h1.own g hm).2
  omega
theorem tscene_go {S S' : List Nat} (hr : Reads wr wr.heap.size size V n xs) (hf : 0 < n → ∀ g ∈ ob V, g ∉ S) (ho : Only S wr w') (hs : ∀ g ∈ S', g ∈ S ∨ wr.heap.size ≤ g) : Reads w' w'.heap.size size V n xs ∧ (0 < n → ∀ g ∈ ob V, g ∉ S') := by
  refine ⟨⟨hr.1, fun hn => ?_⟩, fun hn g hg hm => ?_⟩
  · obtain ⟨ad, e, hb, hc⟩ := hr.2 hn
    refine ⟨ad, e, Nat.lt_of_lt_of_le hb ho.size, fun j u hu => ?_⟩
    rw [← hc j u hu]
    exact ho.cell (by rw [block_of_add]; exact hb) (by rw [block_of_add]; exact hf hn _ (by rw [e]; simp [ob]))
  · obtain ⟨ad, e, hb, hc⟩ := hr.2 hn
    rcases hs g hm with h3 | h3
    · exact hf hn g hg h3
    · rw [e] at hg; simp [ob] at hg; omega
variable (h : TScene w b bud m size n V xs wr)
include h
theorem TScene.to_ {m' : List Kept} (hh : ∀ B S r A cap kvs, CacheIs wr B S b bud m r A cap kvs → CacheTo wr B S b bud m' w') : TScene w b bud m' size n V xs w' := by
  obtain ⟨B, S, r, A, cap, kvs, h1, h2, h3, h4, h5⟩ := id h
  obtain ⟨S', r', A', cap', kvs', g1, g2, g3⟩ := hh _ _ _ _ _ _ h1
  obtain ⟨k1, k2⟩ := tscene_go h4 h5 g2 g3
  exact ⟨B, S', r', A', cap', kvs', g1, h2.trans (g2.below h2.size fun i hi => by have := (h1.own i hi).1; omega), h3, k1, k2⟩
theorem TScene.stay (hb : Below wr.heap.size wr w') : TScene w b bud m size n V xs w' :=
  h.to_ fun B S r A cap kvs hc => ⟨S, r, A, cap, kvs, hc.below hb, Only.of_below hb, fun g hg => .inl hg⟩
theorem TScene.drewN (k : Nat) : TScene w b bud m size n V xs (wr.drewN k) := h.stay (below_drewN (Below.refl _ _) k)
theorem TScene.below : Below w.heap.size w wr := by
  obtain ⟨B, S, r, A, cap, kvs, h1, h2, h3, h4⟩ := h
  exact h2
theorem TScene.nodup : Keys m := by
  obtain ⟨B, S, r, A, cap, kvs, h1, h2, h3, h4⟩ := h
  exact h1.nodup
theorem TScene.row : Reads wr wr.heap.size size V n xs := by
  obtain ⟨B, S, r, A, cap, kvs, h1, h2, h3, h4, h5⟩ := h
  exact h4
theorem TScene.load (hb0 : 1 ≤ bud) (hb1 : bud ≤ 10000) (hs : sumK m ≤ 500000) (hl : m.length ≤ 80000) (p t : ByteArray) (hp : p.size ≤ 9223372036854775807) (ht : t.size ≤ 9223372036854775807) :
    Calls Try.prog 15 #[.pointer (some ⟨b, 0, none⟩), .string p, .string t] wr (fun e w' => e = .returned (errV (loadE bud p t)) ∧ TScene w b bud (loadR bud p t m) size n V xs w') := by
  obtain ⟨B, S, r, A, cap, kvs, h1, h2, h3, h4, h5⟩ := id h
  refine (cload_any wr B S b bud m r A cap kvs h1 hb0 hb1 hs hl p t hp ht).mono ?_
  rintro e w' ⟨rfl, ht⟩
  refine ⟨rfl, ?_⟩
  obtain ⟨S', r', A', cap', kvs', g1, g2, g3⟩ := ht
  obtain ⟨k1, k2⟩ := tscene_go h4 h5 g2 g3
  exact ⟨B, S', r', A', cap', kvs', g1, h2.trans (g2.below h2.size fun i hi => by have := (h1.own i hi).1; omega), h3, k1, k2⟩
theorem TScene.used : Calls Try.prog 16 #[.pointer (some ⟨b, 0, none⟩)] wr (fun e w' => e = .returned (.int .i64 (sumK m)) ∧ w' = wr) := by
  obtain ⟨B, S, r, A, cap, kvs, h1, h2, h3, h4⟩ := id h
  exact cused_any wr B S b bud m r A cap kvs h1
theorem TScene.found (hs : sumK m ≤ 1000000) (hl : m.length ≤ 90000) {p t : ByteArray} (hg : get p m = some t) :
    Calls Try.prog 13 #[.pointer (some ⟨b, 0, none⟩), .string p] wr (fun e w' => e = .returned (.tuple #[.string t, .nilIface]) ∧ TScene w b bud (onK p t m) size n V xs w') := by
  obtain ⟨B, S, r, A, cap, kvs, h1, h2, h3, h4, h5⟩ := id h
  refine (cget_any wr B S b bud m r A cap kvs h1 hs hl p).mono ?_
  rintro e w' (⟨_, rfl, ht⟩ | ⟨hno, _⟩)
  · rw [val_of hg] at ht ⊢
    obtain ⟨S', r', A', cap', kvs', g1, g2, g3⟩ := ht
    obtain ⟨k1, k2⟩ := tscene_go h4 h5 g2 g3
    exact ⟨rfl, B, S', r', A', cap', kvs', g1, h2.trans (g2.below h2.size fun i hi => by have := (h1.own i hi).1; omega), h3, k1, k2⟩
  · rw [hg] at hno; cases hno
theorem TScene.lost (hs : sumK m ≤ 1000000) (hl : m.length ≤ 90000) {p : ByteArray} (hg : get p m = none) :
    Calls Try.prog 13 #[.pointer (some ⟨b, 0, none⟩), .string p] wr (fun e w' => e = .returned (.tuple #[.string ⟨#[]⟩, errV 5]) ∧ w' = wr) := by
  obtain ⟨B, S, r, A, cap, kvs, h1, h2, h3, h4⟩ := id h
  refine (cget_any wr B S b bud m r A cap kvs h1 hs hl p).mono ?_
  rintro e w' (⟨hno, _⟩ | ⟨_, rfl, rfl⟩)
  · rw [hg] at hno; cases hno
  · exact ⟨rfl, rfl⟩
end
end Go.Proofs.Ytgkfmpkankjkdaa
/- Arguments opened: texts, numbers. Plain lemmas. Conditions: none of our own. -/
namespace Go.Proofs.Ytgkfmpkankjkdaa
open Go.RowKit Go.WideShapes Go.ChangeShapes Go.Deep
set_option linter.unusedVariables false
theorem cellsFInt : Try.prog.cellsOf 3 = 1 := by kernel_rfl
theorem cellsFStr : Try.prog.cellsOf 9 = 1 := by kernel_rfl
section
variable {H : Type} {enc : TypeId × Value → H} {w : World} {base : Nat} {spare : Nat → Bool} {held : Bool}
theorem flat_one {α : Type} (f : α → Value) (l : List α) : l.flatMap (fun x => [f x]) = l.map f := by
  induction l with
  | nil => rfl
  | cons x l ih => simp [List.flatMap_cons, ih]
set_option maxRecDepth 100000 in
theorem arg_strs {r : Reach} {b0 : Nat} {v : Value} {d : DataW H} {p : List MemPlace} (hv : Value.okWide Try.prog w r b0 70 v) (h : DataW.Trod enc Try.prog w base spare held 70 v d p) :
    ∃ (A : Option Addr) (cap : Nat) (l : List ByteArray), v = .slice A l.length cap ∧ Reads w w.heap.size 1 A l.length (strs l) ∧ (∀ y ∈ l, y.size ≤ maxLen) ∧ l.length ≤ cap ∧ cap ≤ maxLen := by
  obtain ⟨a, len, c, rfl⟩ := okWide_slice Try.underlying70 hv
  obtain ⟨fuel, hf⟩ := h
  obtain ⟨A, cap, l, e, hr, h2⟩ := open_list (α := ByteArray) (fun s => [.string s]) (fun s => s.size ≤ maxLen) Try.underlying70 cellsFStr (by decide) (fun _ => rfl) (fun _ cs _ h => by
    obtain ⟨s, e, _, hs⟩ := DataW.trod_string Try.underlying9 h
    exact ⟨s, e, hs⟩) hf
  rw [flat_one] at hr
  refine ⟨A, cap, l, ?_, hr, h2⟩
  have e' : [Value.slice a len c] = [.slice A l.length cap] := e
  injection e'
set_option maxRecDepth 100000 in
theorem arg_ints {r : Reach} {b0 : Nat} {v : Value} {d : DataW H} {p : List MemPlace} (hv : Value.okWide Try.prog w r b0 23 v) (h : DataW.Trod enc Try.prog w base spare held 23 v d p) :
    ∃ (A : Option Addr) (cap : Nat) (l : List Int), v = .slice A l.length cap ∧ Reads w w.heap.size 1 A l.length (l.map (Value.int .i64)) ∧ (∀ y ∈ l, I64 y) ∧ l.length ≤ cap ∧ cap ≤ maxLen := by
  obtain ⟨a, len, c, rfl⟩ := okWide_slice Try.underlying23 hv
  obtain ⟨fuel, hf⟩ := h
  obtain ⟨A, cap, l, e, hr, h2⟩ := open_list (α := Int) (fun s => [.int .i64 s]) I64 Try.underlying23 cellsFInt (by decide) (fun _ => rfl) (fun _ cs _ h => by
    obtain ⟨s, e, _, hs⟩ := DataW.trod_int Try.underlying3 h
    exact ⟨s, e, i64_of_wf hs⟩) hf
  rw [flat_one] at hr
  refine ⟨A, cap, l, ?_, hr, h2⟩
  have e' : [Value.slice a len c] = [.slice A l.length cap] := e
  injection e'
end
end Go.Proofs.Ytgkfmpkankjkdaa
/- leaftop.TopCached, proved: a book whose stretches are loaded one by one, as they are asked for, reads as it is, letter by letter, however small the cache. Conditions: none of our own. -/
namespace Go.Proofs.Ytgkfmpkankjkdaa
open Go.RowKit Go.WideShapes Go.ChangeShapes Go.ChangeAt
set_option linter.unusedVariables false
namespace lawTopCached
/-- The document, as it stands while parts are asked for. -/
structure Page (w5 : World) (b1 : Nat) (st : LDoc) : Prop where
  doc : ∃ B S D, DocIs w5 B S b1 st D
  ok : st.Ok
theorem Page.err {w5 : World} {b1 : Nat} {st : LDoc} (h : Page w5 b1 st) : dirErr st.book st.marks = 0 := by
  unfold dirErr; rw [if_neg (fun x => x (bookErr_zero h.ok.book)), marks_zero h.ok.marks]
theorem Page.rises {w5 : World} {b1 : Nat} {st : LDoc} (h : Page w5 b1 st) : Rises (places st.marks) := rises_places (marks_zero h.ok.marks)
theorem Page.pos {w5 : World} {b1 : Nat} {st : LDoc} (h : Page w5 b1 st) : ∀ p ∈ places st.marks, 0 < p.size := lawDirWhole.places_pos (marks_zero h.ok.marks)
theorem Page.few {w5 : World} {b1 : Nat} {st : LDoc} (h : Page w5 b1 st) : (places st.marks).length ≤ 40 := by
  have := places_le st.marks st.marks.length (Nat.le_refl _)
  rw [List.take_length] at this
  have := h.ok.marks.few
  omega
/-- Book, Marks, and what is asked of both. -/
theorem Page.both {w5 : World} {b1 : Nat} {st : LDoc} (h : Page w5 b1 st) {F : Nat} {args : List Value} {Q : World → Ending → World → Prop} (hF : ∀ W V c V2 c2, Below w5.heap.size w5 W → DirIn W V c st.book V2 c2 st.marks → Calls Try.prog F (#[.slice V st.book.length c, .slice V2 st.marks.length c2] ++ args.toArray) W (Q W)) :
    ∀ W, Below w5.heap.size w5 W → Calls Try.prog 10 #[.pointer (some ⟨b1, 0, none⟩)] W (fun e w' => ∃ V c, e = .returned (.slice V st.book.length c) ∧ Below W.heap.size W w' ∧
      ∀ W2, Below w'.heap.size w' W2 → Calls Try.prog 11 #[.pointer (some ⟨b1, 0, none⟩)] W2 (fun e w2 => ∃ V2 c2, e = .returned (.slice V2 st.marks.length c2) ∧ Below W.heap.size W w2 ∧
        ∀ W3, Below w2.heap.size w2 W3 → Below W.heap.size W W3 ∧ Calls Try.prog F (#[.slice V st.book.length c, .slice V2 st.marks.length c2] ++ args.toArray) W3 (Q W3))) := by
  intro W hW
  obtain ⟨⟨B, S, D, hd⟩, ok⟩ := h
  have hd1 := hd.below hW
  refine (book_doc W _ _ _ _ _ hd1 ok).mono ?_
  rintro e w' ⟨V, c, rfl, hO, hb⟩
  refine ⟨V, c, rfl, hb, fun W2 hW2 => ?_⟩
  have hb2 := hb.trans (hW2.mono hb.size)
  refine (marks_doc W2 _ _ _ _ _ (hd1.below hb2) ok).mono ?_
  rintro e w2 ⟨V2, c2, rfl, hO2, hb3⟩
  have hb4 := hb2.trans (hb3.mono hb2.size)
  refine ⟨V2, c2, rfl, hb4, fun W3 hW3 => ⟨hb4.trans (hW3.mono hb4.size), hF W3 V c V2 c2 (hW.trans ((hb4.trans (hW3.mono hb4.size)).mono hW.size)) ?_⟩⟩
  have hl := hO.cap_le
  exact ⟨((hO.below hW2).below (hb3.trans (hW3.mono hb3.size))).reads, (hO2.below hW3).reads, sized_ok ok.book, msized ok.marks, by have := ok.book.few; omega, by have := ok.marks.few; omega, hl⟩
def CLoop (w5 : World) (b : Nat) (bud : Int) (l : List LLeaf) (ps : List ByteArray) (g : Nat) (i : Value) (wr : World) : Prop :=
  ∃ (k : Nat) (m : List Kept), k ≤ 40 ∧ i = .int .i64 k ∧ Hid (TScene w5 b bud m 3 (ps.length + 1) (some ⟨g, 0, none⟩) (scells (strL l ps)) wr) ∧ Hid (sumK m ≤ bud ∧ m.length ≤ k ∧ Segs l ps m)
theorem str_cell {w5 wr : World} {b g : Nat} {bud : Int} {m : List Kept} {l : List LLeaf} {ps : List ByteArray} (h : TScene w5 b bud m 3 (ps.length + 1) (some ⟨g, 0, none⟩) (scells (strL l ps)) wr) {k : Nat} (hk : k ≤ ps.length) : wr.cell? ⟨g, k * 3, none⟩ = some (.string (plAt ps k)) := by
  have hr := h.row
  obtain ⟨ad, e, _, hc⟩ := hr.2 (by omega)
  injection e with e
  subst e
  have h1 := hc (k * 3) (.string (plAt ps k)) (by
    rw [show k * 3 = k * 3 + 0 from rfl, scells_at (strL l ps) k 0 (by rw [strL_len]; omega) (by omega), lawDirWhole.str_get hk (by rw [strL_len]; omega)]
    rfl)
  rw [← h1]
  congr 1
  unfold Addr.add
  by_cases hj : k * 3 = 0 <;> simp [hj]
theorem load_why {bud : Int} {p t : ByteArray} (hp : p.size = 0 ∨ placeErr p = 0) : loadE bud p t = 0 ∨ (loadE bud p t = 4 ∧ ¬ (t.size : Int) ≤ bud) := by
  unfold loadE
  rw [if_neg (by rintro ⟨h1, h2⟩; rcases hp with h | h; exact h1 h; exact h2 h)]
  by_cases h : bud < t.size
  · rw [if_pos h]; exact .inr ⟨rfl, by omega⟩
  · rw [if_neg h]; exact .inl rfl
theorem plAt_ok {m : List LMark} (hm : marksErr m = 0) {k : Nat} (hk : k ≤ (places m).length) : (plAt (places m) k).size = 0 ∨ placeErr (plAt (places m) k) = 0 := by
  rcases Nat.eq_zero_or_pos k with h | h
  · subst h; exact .inl rfl
  · obtain ⟨a, rfl⟩ : ∃ a, k = a + 1 := ⟨k - 1, by omega⟩
    right
    have e : plAt (places m) (a + 1) = (places m)[a]'(by omega) := by unfold plAt; simp [show a < (places m).length by omega]
    rw [e]
    have hm' : marksFault none m = 0 := by
      unfold marksErr at hm
      split at hm
      · omega
      · exact hm
    have hmem := List.getElem_mem (l := places m) (n := a) (by omega)
    have hx : ∃ x ∈ m, x.place = (places m)[a]'(by omega) := by
      have key : ∀ (l : List LMark) (out : List ByteArray) (p : ByteArray), p ∈ l.foldl plStep out → p ∈ out ∨ ∃ x ∈ l, x.place = p := by
        intro l
        induction l with
        | nil => intro out p h; exact .inl h
        | cons x l ih =>
          intro out p h
          rw [List.foldl_cons] at h
          rcases ih _ p h with h1 | ⟨y, hy, h1⟩
          · unfold plStep at h1
            split at h1
            · exact .inl h1
            · rcases List.mem_append.1 h1 with h2 | h2
              · exact .inl h2
              · simp at h2; exact .inr ⟨x, by simp, h2.symm⟩
          · exact .inr ⟨y, by simp [hy], h1⟩
      rcases key m [] _ hmem with h1 | h1
      · cases h1
      · exact h1
    obtain ⟨x, hx, hp⟩ := hx
    rw [← hp]
    exact lawDirWhole.mark_places m none hm' x hx
theorem seg_size {l : List LLeaf} {ps : List ByteArray} (hr : Rises ps) {k : Nat} (hk : k ≤ ps.length) : (segT l ps k).size = endOf l ps k - fr l ps k := by
  unfold segT
  have h1 := end_le (l := l) (ps := ps) k
  have h2 : (textOf l).size = (textL l).length := strOf_size _
  rw [ByteArray.size_extract]
  omega
theorem seg_at {l : List LLeaf} {ps : List ByteArray} (hr : Rises ps) {k j : Nat} (hk : k ≤ ps.length) (hj : fr l ps k + j < endOf l ps k) : ∃ (h1 : j < (segT l ps k).size) (h2 : fr l ps k + j < (textOf l).size), (segT l ps k)[j] = (textOf l)[fr l ps k + j] := by
  have h1 := end_le (l := l) (ps := ps) k
  have h2 : (textOf l).size = (textL l).length := strOf_size _
  refine ⟨by rw [seg_size hr hk]; omega, by omega, ?_⟩
  unfold segT
  exact ByteArray.getElem_extract ..
/-- Locate, told by the stretch. -/
def LocIs (l : List LLeaf) (ps : List ByteArray) (off x y ke : Int) : Prop :=
  (ke = 0 ∧ ∃ k j : Nat, k ≤ ps.length ∧ off = ((fr l ps k + j : Nat) : Int) ∧ fr l ps k + j < endOf l ps k ∧ x = (k : Int) ∧ y = (j : Int)) ∨ (ke = 1 ∧ (off < 0 ∨ ((textL l).length : Int) ≤ off))
def LocAt (l : List LLeaf) (ps : List ByteArray) (off : Int) (W : World) (e : Ending) (w' : World) : Prop :=
  ∃ x y ke : Int, e = .returned (.tuple #[.int .i64 x, .int .i64 y, errV ke]) ∧ Below W.heap.size W w' ∧ LocIs l ps off x y ke
theorem Page.locate {w5 : World} {b1 : Nat} {st : LDoc} (h : Page w5 b1 st) (off : Int) (ho : -9223372036854775808 ≤ off ∧ off ≤ 9223372036854775807) (W : World) (V : Option Addr) (c : Nat) (V2 : Option Addr) (c2 : Nat) (hI : DirIn W V c st.book V2 c2 st.marks) :
    Calls Try.prog 12 (#[.slice V st.book.length c, .slice V2 st.marks.length c2] ++ [Value.int .i64 off].toArray) W (LocAt st.book (places st.marks) off W) := by
  have hL := locate_any hI h.err off ho
  refine (show Calls Try.prog 12 #[.slice V st.book.length c, .slice V2 st.marks.length c2, .int .i64 off] W _ from hL).mono ?_
  rintro e w' ⟨h1, hb⟩
  have hlen : (strL st.book (places st.marks)).length = (places st.marks).length + 1 := strL_len
  rcases h1 with ⟨k, hk, hh, rfl⟩ | ⟨hno, rfl⟩
  · have hk2 : k ≤ (places st.marks).length := by omega
    obtain ⟨e1, e2, e3⟩ := lawDirWhole.hit_at hk2 hk hh
    refine ⟨_, _, 0, rfl, hb, .inl ⟨rfl, k, (off - fr st.book (places st.marks) k).toNat, hk2, by omega, by omega, rfl, by rw [e1]; omega⟩⟩
  · refine ⟨0, 0, 1, rfl, hb, .inr ⟨rfl, ?_⟩⟩
    by_cases h0 : off < 0
    · exact .inl h0
    · right
      rcases Int.lt_or_le off ((textL st.book).length : Int) with h1 | h1
      · exfalso
        obtain ⟨o, rfl⟩ : ∃ o : Nat, off = (o : Int) := ⟨off.toNat, by omega⟩
        obtain ⟨k, hk, h2, h3⟩ := lawDirWhole.some_hit (l := st.book) (ps := places st.marks) h.rises (o := o) (by omega)
        have h4 := hno k (by rw [strL_len]; omega)
        rw [lawDirWhole.hit_true hk (by rw [strL_len]; omega) h2 h3] at h4
        cases h4
      · exact h1
theorem Page.slice {w5 : World} {b1 : Nat} {st : LDoc} (h : Page w5 b1 st) {k : Nat} (hk : k ≤ (places st.marks).length) (W : World) (V : Option Addr) (c : Nat) (V2 : Option Addr) (c2 : Nat) (hI : DirIn W V c st.book V2 c2 st.marks) :
    Calls Try.prog 14 (#[.slice V st.book.length c, .slice V2 st.marks.length c2] ++ [Value.int .i64 (k : Int)].toArray) W (SlicePost W (segT st.book (places st.marks) k) 0) := by
  have hl : k < (strL st.book (places st.marks)).length := by rw [strL_len]; omega
  have h1 := fr_end (l := st.book) h.rises hk
  have h2 := end_le (l := st.book) (ps := places st.marks) k
  have := slice_in hI h.err k hl (fr st.book (places st.marks) k) (endOf st.book (places st.marks) k - fr st.book (places st.marks) k) (by
    rw [lawDirWhole.str_get hk hl]
    exact ⟨rfl, by show ((_ : Int) - _) = _; omega, by omega⟩)
  rw [show fr st.book (places st.marks) k + (endOf st.book (places st.marks) k - fr st.book (places st.marks) k) = endOf st.book (places st.marks) k by omega] at this
  exact this
set_option maxRecDepth 100000 in
set_option maxHeartbeats 16000000 in
theorem walk (w : World) (A0 : Option Addr) (c0 : Nat) (ys : List OpAt) (bud : Int) (A2 : Option Addr) (c2 : Nat) (ats : List Int) (h0 : Reads w w.heap.size 6 A0 ys.length (ocells ys)) (hg : ∀ y ∈ ys, y.Good w)
    (h2 : Reads w w.heap.size 1 A2 ats.length (ints ats)) (hg2 : ∀ n ∈ ats, -9223372036854775808 ≤ n ∧ n ≤ 9223372036854775807) (hn0 : ys.length ≤ 9223372036854775807) (hn2 : ats.length ≤ 9223372036854775807) :
    Calls Try.prog 3 #[.slice A0 ys.length c0, .int .i64 bud, .slice A2 ats.length c2] w (CheckPost w (.bool true)) := by
  have HR0 := Lib.hid h0
  have HG := Lib.hid hg
  have HR2 := Lib.hid h2
  have HG2 := Lib.hid hg2
  have HE0 : errV 0 = .nilIface := rfl
  have HE1 := errV_ne (show (1 : Int) ≠ 0 by decide)
  have HE4 := errV_ne (show (4 : Int) ≠ 0 by decide)
  have HE5 := errV_ne (show (5 : Int) ≠ 0 by decide)
  have HONE := Lib.hid (one_any w)
  have HN := Lib.hid (fun W => new_doc W)
  have HNC := Lib.hid (fun W (b0 : 1 ≤ bud) (b1 : bud ≤ 10000) => cnew_scene W W (Below.refl _ _) bud b0 b1)
  have HNN := Lib.hid (fun W (hb : bud < 1 ∨ 10000 < bud) => cnew_none W bud hb)
  clear h0 hg h2 hg2
  go_enter Try.func3, Try.ntmps3
  go_wp2_with fail
  refine HONE.out.mono ?_
  rintro e w1 ⟨rfl, hb1⟩
  have HB1 := Lib.hid hb1
  clear hb1 HONE
  go_wp2_with fail
  refine (HN.out w1).mono ?_
  rintro e w2 ⟨b1, S1, D1, rfl, hd1, hb1⟩
  have HD2 : Hid (DocAt w w1.heap.size b1 0 w2) := DocAt.new hd1 (HB1.out.trans (hb1.mono HB1.out.size)) 0
  have HBB := Lib.hid HB1.out.size
  clear hd1 hb1 HN HB1
  generalize w1.heap.size = B at *
  go_upto_block 0 with (fail)
  go_cut [] (fun wx => DocAt w B b1 60 wx)
  case first => as_aux_lemma =>
    go_wp2_with fail
    go_loopw [9] (fun i wr => DocLoop w B b1 i wr) (fun i _ => 60 - (intOf i).toNat)
    case atStart => exact ⟨0, by omega, rfl, HD2.out⟩
    case round =>
      obtain ⟨k, hk, rfl, HK⟩ := hrel
      have k0 : (0 : Int) ≤ (k : Int) := by omega
      by_cases h1 : k < ys.length
      · have k1 : (k : Int) < (ys.length : Int) := by omega
        by_cases h2 : k < 60
        · have k2 : (k : Int) < 60 := by omega
          obtain ⟨ad, who', nn, what, p', letter', seen, ya, yc, rfl, d0, d1, d2, d3, d4, d5, hC⟩ := HK.out.round HBB.out HR0.out HG.out h1
          have HC := Lib.hid hC
          clear hC HK
          go_wp2_with fail
          refine HC.out.mono ?_
          rintro e w9 ⟨⟨is, ke, rfl⟩, hD⟩
          have HDX := Lib.hid hD
          clear d0 d1 d2 d3 d4 d5 hD HC
          go_wp2_with fail
          go_roundw
          case rel => exact ⟨k + 1, by omega, by go_num, HDX.out⟩
          case measure => simp [intOf]; omega
        · have k2 : ¬ (k : Int) < 60 := by omega
          have HF := Lib.hid (HK.out.more (m := 60) (by omega))
          go_wp2_with fail
          go_meet
          case rel => exact HF.out
      · have k1 : ¬ (k : Int) < (ys.length : Int) := by omega
        have HF := Lib.hid (HK.out.more (m := 60) (by omega))
        go_wp2_with fail
        go_meet
        case rel => exact HF.out
  case rest =>
    obtain ⟨st, S, D, hd, hok, hsays, _, hlen, hbel⟩ := hcut
    obtain ⟨w5, hw5⟩ : ∃ x : World, x = wc := ⟨_, rfl⟩
    subst hw5
    have HPG : Hid (Page w5 b1 st) := ⟨⟨B, S, D, hd⟩, hok⟩
    have HBM := Lib.hid hbel
    clear hd hok hsays hlen hbel HD2
    by_cases hbad : bud < 1 ∨ 10000 < bud
    · have HC := Lib.hid (HNN.out w5 hbad)
      by_cases hb1 : bud < 1
      · clear hbad
        go_wp2_with fail
        refine HC.out.mono ?_
        rintro e w6 ⟨rfl, hw⟩
        obtain rfl := hw.symm
        rw [HE1]
        go_wp2_with fail
        go_ret
        exact ⟨rfl, HBM.out⟩
      · have hb2 : decide (bud > 10000) = true := decide_eq_true (by omega)
        clear hbad
        go_wp2_with fail
        refine HC.out.mono ?_
        rintro e w6 ⟨rfl, hw⟩
        obtain rfl := hw.symm
        rw [HE1]
        go_wp2_with fail
        go_ret
        exact ⟨rfl, HBM.out⟩
    · have hb0 : 1 ≤ bud := by omega
      have hb1' : bud ≤ 10000 := by omega
      have HC := Lib.hid (HNC.out w5 hb0 hb1')
      clear hbad HNN HNC
      go_wp2_with fail
      refine HC.out.mono ?_
      rintro e w6 ⟨b, rfl, hs⟩
      have HS6 := Lib.hid hs
      have HT := Lib.hid (show Calls Try.prog 8 #[.pointer (some ⟨b1, 0, none⟩)] w6 (CheckPost w6 (.string (textOf st.book))) from by
        obtain ⟨⟨B, S, D, hd⟩, ok⟩ := HPG.out
        exact text_doc w6 _ _ _ _ _ (hd.below HS6.out.below) ok)
      clear hs HC
      go_wp2_with fail
      refine HT.out.mono ?_
      rintro e w7 ⟨rfl, hb⟩
      have HS7 := Lib.hid (HS6.out.stay hb)
      have HST := Lib.hid (HPG.out.both (F := 9) (args := []) (Q := fun W => StretchPost W (strL st.book (places st.marks))) (fun W V c V2 c2 hW hI => by
        have := stretches_ok hI HPG.out.err
        simpa using this) w7 HS7.out.below)
      clear hb HT HS6
      go_wp2_with fail
      refine HST.out.mono ?_
      rintro e w8 ⟨V, cV, rfl, hb8, hL⟩
      have HB8 := Lib.hid hb8
      have HL8 := Lib.hid (hL w8 (Below.refl _ _))
      clear hb8 hL HST
      go_wp2_with fail
      refine HL8.out.mono ?_
      rintro e w9 ⟨V2, cV2, rfl, hb9, hL⟩
      obtain ⟨hb9', hL9⟩ := hL w9 (Below.refl _ _)
      have HL9 := Lib.hid hL9
      have HB9 := Lib.hid hb9
      simp only [Array.append_empty] at HL9
      clear hb9 hb9' hL hL9 HL8 HB8
      go_wp2_with fail
      refine HL9.out.mono ?_
      rintro e w10 ⟨V3, cV3, rfl, hO, hb10⟩
      have hb710 := HB9.out.trans (hb10.mono HB9.out.size)
      have hlen : (strL st.book (places st.marks)).length = (places st.marks).length + 1 := strL_len
      rw [hlen] at hO ⊢
      obtain ⟨g, rfl, _, _⟩ := hO.head (by omega)
      have HTS : Hid (TScene w5 b bud [] 3 ((places st.marks).length + 1) (some ⟨g, 0, none⟩) (scells (strL st.book (places st.marks))) w10) := TScene.made HS7.out hb710 (hO.mono HB9.out.size)
      have hfew := HPG.out.few
      have htx : (textOf st.book).size = (textL st.book).length := strOf_size _
      have hbk := HPG.out.ok.book.few
      have htl := textL_le st.book
      clear hO hb10 hb710 hlen HL9 HB9 HS7
      have HRI := Lib.hid HPG.out.rises
      have HPP := Lib.hid HPG.out.pos
      have HPLA := Lib.hid (fun k hk => plAt_ok (marks_zero HPG.out.ok.marks) (k := k) hk)
      generalize hps : places st.marks = ps at *
      have HPS := Lib.hid hps
      clear hps
      go_wp2_with fail
      go_loopw [14] (fun i wr => CLoop w5 b bud st.book ps g i wr) (fun i _ => 40 - (intOf i).toNat)
      case atStart => exact ⟨0, [], by omega, rfl, HTS.out, Lib.hid ⟨by show (0 : Int) ≤ bud; omega, by simp, Segs.nil _ _⟩⟩
      case round =>
        obtain ⟨k, m, hk, rfl, HK, HM⟩ := hrel
        have k0 : (0 : Int) ≤ (k : Int) := by omega
        by_cases h1 : k < ats.length
        · have k1 : (k : Int) < (ats.length : Int) := by omega
          by_cases h2 : k < 40
          · have k2 : (k : Int) < 40 := by omega
            have hA2 : ∃ ad, A2 = some ad ∧ Hid (∀ W, Below w.heap.size w W → W.cell? (ad.add k) = some (.int .i64 ats[k])) := by
              obtain ⟨ad, e, hb, hc⟩ := HR2.out.int h1
              exact ⟨ad, e, fun W hW => (hW.cell (by rw [block_of_add]; exact hb)).trans hc⟩
            obtain ⟨ad, rfl, HAT⟩ := hA2
            obtain ⟨hg0, hg1⟩ := HG2.out _ (List.getElem_mem h1)
            have HBW : Hid (∀ W, Below w5.heap.size w5 W → Below w.heap.size w W) := fun W hW => HBM.out.trans (hW.mono HBM.out.size)
            have hbel := HK.out.below
            have HLOC := Lib.hid (HPG.out.both (F := 12) (args := [.int .i64 ats[k]]) (Q := fun W => LocAt st.book (places st.marks) ats[k] W) (fun W V c V2 c2 hW hI => HPG.out.locate ats[k] ⟨hg0, hg1⟩ W V c V2 c2 hI))
            have d0 := HAT.out _ (HBW.out _ hbel)
            have HBR := Lib.hid hbel
            have HWR := Lib.hid (fun W (hb : Below wr.heap.size wr W) => HAT.out W (HBW.out W (hbel.trans (hb.mono hbel.size))))
            rw [HPS.out] at HLOC
            clear hbel
            generalize ats[k] = off at *
            go_wp2_with fail
            go_region_held3 (fun W => W.cell? (ad.add k) = some (.int .i64 off)) (first | go_keep | assumption)
              (first
                | (go_at_call 10; refine (HLOC.out _ (by first | exact HBR.out | exact HBR.out.drew | exact below_drewN HBR.out _)).mono ?_; rintro e w11 ⟨V, c, rfl, hb11, hL⟩
                   have hbx : Below wr.heap.size wr w11 := by first | exact hb11 | exact below_of_drew hb11 | exact below_of_drewN (n := 1) hb11
                   have HL11 := Lib.hid (hL w11 (Below.refl _ _))
                   clear d0
                   have d0 := HWR.out _ hbx
                   clear hb11 hL hbx)
                | (go_at_call 11; refine HL11.out.mono ?_; rintro e w12 ⟨V2, c2, rfl, hb12, hL⟩
                   have hbx : Below wr.heap.size wr w12 := by first | exact hb12 | exact below_of_drew hb12 | exact below_of_drewN (n := 1) hb12
                   obtain ⟨_, hL12⟩ := hL w12 (Below.refl _ _)
                   have HL12 := Lib.hid hL12
                   have HB12 := Lib.hid hbx
                   clear d0
                   have d0 := HWR.out _ hbx
                   clear hb12 hL hbx hL12 HL11)
                | (go_at_call 12; refine (show Calls Try.prog 12 _ w12 _ from HL12.out).mono ?_; rintro e w13 ⟨xk, yj, ke, rfl, hb13, hloc⟩
                   have hbx : Below wr.heap.size wr w13 := HB12.out.trans (hb13.mono HB12.out.size)
                   have HB13 := Lib.hid hbx
                   have HLC := Lib.hid hloc
                   clear d0
                   have d0 := HWR.out _ hbx
                   clear hb13 hbx hloc HL12 HB12))
            have HT13 := Lib.hid (HK.out.stay HB13.out)
            rcases HLC.out with ⟨hke, kk, jj, hkk, hoff, hjj, hx, hy⟩ | ⟨hke, hfar⟩
            · subst hke hx hy
              rw [HE0]
              obtain ⟨i1, i2, i3⟩ := seg_at (l := st.book) HRI.out hkk hjj
              subst hoff
              have I3 : Hid (_ = _) := i3
              have pk := Lib.hid (str_cell HT13.out hkk)
              have s0 := str_cell HT13.out hkk
              have kk0 : (0 : Int) ≤ (kk : Int) := by omega
              have kk1 : (kk : Int) < ((ps.length + 1 : Nat) : Int) := by omega
              have kk2 : (kk : Int) < (ps.length : Int) + 1 := by omega
              have jj0 : (0 : Int) ≤ (jj : Int) := by omega
              have jj1 : (jj : Int) < ((segT st.book ps kk).size : Int) := by omega
              have jj2 : ¬ (jj : Int) ≥ ((segT st.book ps kk).size : Int) := by omega
              have jj3 : decide ((jj : Int) ≥ ((segT st.book ps kk).size : Int)) = false := decide_eq_false jj2
              have jj4 : decide (((segT st.book ps kk).size : Int) ≤ (jj : Int)) = false := decide_eq_false (by omega)
              have jj5 : decide ((segT st.book ps kk).size ≤ jj) = false := decide_eq_false (by omega)
              have jj6 : ¬ ((segT st.book ps kk).size ≤ jj) := by omega
              have jjn : (jj : Int).toNat = jj := by omega
              have oo0 : (0 : Int) ≤ ((fr st.book ps kk + jj : Nat) : Int) := by omega
              have oo1 : ((fr st.book ps kk + jj : Nat) : Int) < ((textOf st.book).size : Int) := by omega
              have oon : ((fr st.book ps kk + jj : Nat) : Int).toNat = fr st.book ps kk + jj := by omega
              have gb : (((segT st.book ps kk)[jj].toNat : Int) != ((textOf st.book)[fr st.book ps kk + jj].toNat : Int)) = false := by rw [i3]; simp
              have HPO := Lib.hid (HPLA.out kk hkk)
              clear hjj i3
              cases hget : get (plAt ps kk) m with
              | some t =>
                have ht : t = segT st.book ps kk := HM.out.2.2.get HRI.out HPP.out hkk hget
                have HGT := Lib.hid (HT13.out.found (by have := HM.out.1; omega) (by have := HM.out.2.1; omega) hget)
                have HMN : Hid (sumK (onK (plAt ps kk) t m) ≤ bud ∧ (onK (plAt ps kk) t m).length ≤ k + 1 ∧ Segs st.book ps (onK (plAt ps kk) t m)) := ⟨by rw [on_sum HT13.out.nodup hget]; exact HM.out.1, by have := on_len (p := plAt ps kk) (t := t) (m := m); have := HM.out.2.1; omega, by rw [ht]; exact HM.out.2.2.on hkk⟩
                clear hget
                subst ht
                generalize onK (plAt ps kk) (segT st.book ps kk) m = m1 at *
                generalize plAt ps kk = pl at *
                go_wp2_with fail
                refine HGT.out.mono ?_
                rintro e w14 ⟨rfl, hs⟩
                have HT14 := Lib.hid hs
                clear hs HGT s0
                have HU := Lib.hid (fun W (h : TScene w5 b bud m1 3 (ps.length + 1) (some ⟨g, 0, none⟩) (scells (strL st.book ps)) W) => h.used)
                have gu : decide (sumK m1 > bud) = false := decide_eq_false (by have := HMN.out.1; omega)
                have gu2 : ¬ sumK m1 > bud := by have := HMN.out.1; omega
                have gu3 : decide (bud < sumK m1) = false := decide_eq_false gu2
                clear d0
                have d0 := HAT.out _ (HBW.out _ HT14.out.below)
                have HF := Lib.hid (And.intro HMN.out.1 (And.intro HMN.out.2.1 HMN.out.2.2))
                generalize hsm : sumK m1 = su at gu gu2 gu3
                have HSM := Lib.hid hsm
                clear hsm HLC HRI HPP HPLA HPS HPO I3 pk
                generalize segT st.book ps kk = sg at *
                generalize hgtx : textOf st.book = tx at *
                have HGTX := Lib.hid hgtx
                clear hgtx htx
                generalize fr st.book ps kk + jj = o at *
                go_wp2_with fail
                go_region_held3 (fun W => W.cell? (ad.add k) = some (.int .i64 (o : Int))) (first | go_keep | assumption)
                  ((go_at_call 16; refine (HU.out _ (by first | exact HT14.out | exact HT14.out.drewN _ | exact HT14.out.drewN 1)).mono ?_; rintro e wu ⟨rfl, hwu⟩
                    have HTU : Hid (TScene w5 b bud m1 3 (ps.length + 1) (some ⟨g, 0, none⟩) (scells (strL st.book ps)) wu) := by
                      show TScene _ _ _ _ _ _ _ _ _
                      rw [hwu]
                      first | exact HT14.out | exact HT14.out.drewN _ | exact HT14.out.drewN 1
                    rw [HSM.out]
                    clear d0
                    have d0 := HAT.out _ (HBW.out _ HTU.out.below)
                    clear hwu))
                go_wp2_with fail
                all_goals
                  have hgtx := HGTX.out
                  subst hgtx
                  go_roundw
                  case rel => exact ⟨k + 1, m1, by omega, by go_num, HTU, Lib.hid ⟨HF.out.1, by have := HF.out.2.1; omega, HF.out.2.2⟩⟩
                  case measure => simp [intOf]; omega
              | none =>
                have HLO := Lib.hid (HT13.out.lost (by have := HM.out.1; omega) (by have := HM.out.2.1; omega) hget)
                rw [HE5] at HLO
                have HSL := Lib.hid (HPG.out.both (F := 14) (args := [.int .i64 (kk : Int)]) (Q := fun W => SlicePost W (segT st.book (places st.marks) kk) 0) (fun W V c V2 c2 hW hI => HPG.out.slice (by rw [HPS.out]; exact hkk) W V c V2 c2 hI) w13 HT13.out.below)
                rw [HPS.out] at HSL
                have HLD := Lib.hid (fun W (h : TScene w5 b bud m 3 (ps.length + 1) (some ⟨g, 0, none⟩) (scells (strL st.book ps)) W) => h.load hb0 hb1' (by have := HM.out.1; omega) (by have := HM.out.2.1; omega) (plAt ps kk) (segT st.book ps kk) (by rcases HPO.out with h | h; omega; have := place_small h; omega) (by have h := (show (segT st.book ps kk).size = min (endOf st.book ps kk) (textOf st.book).size - fr st.book ps kk from ByteArray.size_extract); have h2 : (textOf st.book).size = (textL st.book).length := strOf_size _; omega))
                have HWH := Lib.hid (load_why (bud := bud) (t := segT st.book ps kk) HPO.out)
                have HMN : Hid (sumK (loadR bud (plAt ps kk) (segT st.book ps kk) m) ≤ bud ∧ (loadR bud (plAt ps kk) (segT st.book ps kk) m).length ≤ k + 1 ∧ Segs st.book ps (loadR bud (plAt ps kk) (segT st.book ps kk) m)) := ⟨load_sum (by omega) HM.out.1, by have := load_len (bud := bud) (p := plAt ps kk) (t := segT st.book ps kk) (m := m); have := HM.out.2.1; omega, HM.out.2.2.load hkk bud⟩
                clear hget
                generalize loadR bud (plAt ps kk) (segT st.book ps kk) m = m1 at *
                go_wp2_with fail
                refine HLO.out.mono ?_
                rintro e w14 ⟨rfl, hw⟩
                obtain rfl := hw.symm
                clear hw HLO
                go_wp2_with fail
                refine HSL.out.mono ?_
                rintro e w15 ⟨V, c, rfl, hb15, hL⟩
                have HL15 := Lib.hid (hL w15 (Below.refl _ _))
                clear hb15 hL HSL
                go_wp2_with fail
                refine HL15.out.mono ?_
                rintro e w16 ⟨V2, c2, rfl, hb16, hL⟩
                obtain ⟨_, hL16⟩ := hL w16 (Below.refl _ _)
                have HL16 := Lib.hid hL16
                have HB16 := Lib.hid hb16
                clear hb16 hL hL16 HL15
                go_wp2_with fail
                refine (show Calls Try.prog 14 _ w16 _ from HL16.out).mono ?_
                rintro e w17 ⟨rfl, hb17⟩
                rw [HE0]
                have HT17 := Lib.hid (HT13.out.stay (HB16.out.trans (hb17.mono HB16.out.size)))
                have HLD17 := Lib.hid (HLD.out _ HT17.out)
                clear hb17 HL16 HB16 HLD s0
                have s0 := str_cell HT17.out hkk
                rcases HWH.out with hz | ⟨hz, hbig⟩
                · rw [hz, HE0] at HLD17
                  generalize plAt ps kk = pl at *
                  go_wp2_with fail
                  refine HLD17.out.mono ?_
                  rintro e w18 ⟨rfl, hs⟩
                  have HT18 := Lib.hid hs
                  clear hs HLD17 s0 hz HWH
                  have HU := Lib.hid (fun W (h : TScene w5 b bud m1 3 (ps.length + 1) (some ⟨g, 0, none⟩) (scells (strL st.book ps)) W) => h.used)
                  have gu : decide (sumK m1 > bud) = false := decide_eq_false (by have := HMN.out.1; omega)
                  have gu2 : ¬ sumK m1 > bud := by have := HMN.out.1; omega
                  have gu3 : decide (bud < sumK m1) = false := decide_eq_false gu2
                  clear d0
                  have d0 := HAT.out _ (HBW.out _ HT18.out.below)
                  have HF := Lib.hid (And.intro HMN.out.1 (And.intro HMN.out.2.1 HMN.out.2.2))
                  generalize hsm : sumK m1 = su at gu gu2 gu3
                  have HSM := Lib.hid hsm
                  clear hsm HLC HRI HPP HPLA HPS HPO I3 pk
                  generalize segT st.book ps kk = sg at *
                  generalize hgtx : textOf st.book = tx at *
                  have HGTX := Lib.hid hgtx
                  clear hgtx htx
                  generalize fr st.book ps kk + jj = o at *
                  go_wp2_with fail
                  go_region_held3 (fun W => W.cell? (ad.add k) = some (.int .i64 (o : Int))) (first | go_keep | assumption)
                    ((go_at_call 16; refine (HU.out _ (by first | exact HT18.out | exact HT18.out.drewN _ | exact HT18.out.drewN 1)).mono ?_; rintro e wu ⟨rfl, hwu⟩
                      have HTU : Hid (TScene w5 b bud m1 3 (ps.length + 1) (some ⟨g, 0, none⟩) (scells (strL st.book ps)) wu) := by
                        show TScene _ _ _ _ _ _ _ _ _
                        rw [hwu]
                        first | exact HT18.out | exact HT18.out.drewN _ | exact HT18.out.drewN 1
                      rw [HSM.out]
                      clear d0
                      have d0 := HAT.out _ (HBW.out _ HTU.out.below)
                      clear hwu))
                  go_wp2_with fail
                  all_goals
                    have hgtx := HGTX.out
                    subst hgtx
                    go_roundw
                    case rel => exact ⟨k + 1, m1, by omega, by go_num, HTU, Lib.hid ⟨HF.out.1, by have := HF.out.2.1; omega, HF.out.2.2⟩⟩
                    case measure => simp [intOf]; omega
                · rw [hz, HE4] at HLD17
                  have HT18F : Hid (∀ W, TScene w5 b bud m1 3 (ps.length + 1) (some ⟨g, 0, none⟩) (scells (strL st.book ps)) W → TScene w5 b bud m1 3 (ps.length + 1) (some ⟨g, 0, none⟩) (scells (strL st.book ps)) W) := fun _ h => h
                  have gbig : decide (((segT st.book ps kk).size : Int) ≤ bud) = false := decide_eq_false (by omega)
                  generalize plAt ps kk = pl at *
                  go_wp2_with fail
                  refine HLD17.out.mono ?_
                  rintro e w18 ⟨rfl, hs⟩
                  have HT18 := Lib.hid hs
                  clear hs HLD17 s0 hz HWH
                  go_wp2_with fail
                  go_roundw
                  case rel => exact ⟨k + 1, m1, by omega, by go_num, HT18, HMN⟩
                  case measure => simp [intOf]; omega
            · subst hke
              rw [HE1]
              by_cases hneg : 0 ≤ off
              · have n1 : off ≥ 0 := hneg
                have n2 : ¬ off < ((textOf st.book).size : Int) := by omega
                go_wp2_with fail
                go_roundw
                case rel => exact ⟨k + 1, m, by omega, by go_num, HT13, Lib.hid ⟨HM.out.1, by have := HM.out.2.1; omega, HM.out.2.2⟩⟩
                case measure => simp [intOf]; omega
              · have n1 : ¬ off ≥ 0 := hneg
                go_wp2_with fail
                go_roundw
                case rel => exact ⟨k + 1, m, by omega, by go_num, HT13, Lib.hid ⟨HM.out.1, by have := HM.out.2.1; omega, HM.out.2.2⟩⟩
                case measure => simp [intOf]; omega
          · have k2 : ¬ (k : Int) < 40 := by omega
            have HBF := Lib.hid (HBM.out.trans (HK.out.below.mono HBM.out.size))
            go_wp2_with fail
            go_ret
            exact ⟨rfl, HBF.out⟩
        · have k1 : ¬ (k : Int) < (ats.length : Int) := by omega
          have HBF := Lib.hid (HBM.out.trans (HK.out.below.mono HBM.out.size))
          go_wp2_with fail
          go_ret
          exact ⟨rfl, HBF.out⟩
end lawTopCached
end Go.Proofs.Ytgkfmpkankjkdaa
/- leaftop.TopCached: the statement. Conditions: none of our own. -/
namespace Go.Proofs.Ytgkfmpkankjkdaa
open Go.RowKit Go.WideShapes Go.ChangeShapes Go.ChangeAt
set_option linter.unusedVariables false
namespace lawTopCached
set_option maxRecDepth 100000 in
theorem lifted (os : Os) (started : os.Started) (H : Type) (enc : TypeId × Value → H) :
    ReturnsInHanded {} Try.checked os 3 .any (Rows.topCachedSpec.pre6 enc Try.prog Try.f3 Rows.topCachedRow.domain false) (Rows.topCachedSpec.post enc Try.prog Try.f3 false true false false) := by
  refine returnsInHanded_of_change (C := Try.checked) Try.own started (by kernel_rfl) Try.func3
    (ChangeSpec.witness6 (enc := enc) (C := Try.checked) false ⟨#[], #[.slice none 0 0, .int .i64 1, .slice none 0 0], []⟩ 8 (by kernel_rfl) (by kernel_rfl) (by kernel_rfl) (by kernel_rfl)) ?_
  intro W base args ds gs before hval0 hW _ _
  have hval : ∀ (j : Nat) t v, Try.f3.params[j]? = some t → args[j]? = some v → Value.okWide Try.prog W .any base t v := hval0
  obtain ⟨p, q, hA0, _⟩ := id hW
  have hA : DataW.TrodAll enc Try.prog W 0 (fun _ => true) true Try.f3.params.toList args.toList ds p := hA0
  rw [Try.params3] at hA hval
  obtain ⟨v0, v1, v2, d0, d1, d2, p0, p1, p2, rfl, rfl, rfl, h0, h1, h2⟩ := trodAll_three hA
  obtain ⟨A0, c0, l0, rfl, r0, g0, lc0, cm0⟩ := arg_ops (hval 0 22 v0 rfl rfl) h0
  obtain ⟨a1, rfl, rfl, rfl, wa1⟩ := open_int Try.underlying3 (hval 1 3 v1 rfl rfl) h1
  obtain ⟨A2, c2, l2, rfl, r2, g2, lc2, cm2⟩ := arg_ints (hval 2 23 v2 rfl rfl) h2
  refine (walk W A0 c0 l0 a1 A2 c2 l2 r0 g0 r2 g2 (by unfold maxLen at cm0; omega) (by unfold maxLen at cm2; omega)).mono fun e W' ⟨he, hb⟩ => ⟨_, he, ?_⟩
  exact law_post Try.laidOut (tb := 4) (by kernel_rfl) Try.underlying4 (by rw [Try.params3]; simp only [List.mem_cons, List.not_mem_nil, or_false]; rintro t (rfl | rfl | rfl) <;> exact ⟨by kernel_rfl, of_decide_eq_true (by kernel_rfl)⟩) rfl rfl hW hb

theorem holds : Rows.TopCachedSaid :=
  OpenClaim.holds_of_wide 3 Try.f3 rfl rfl rfl rfl rfl rfl rfl ⟨rfl, rfl, rfl, rfl, rfl⟩ rfl rfl rfl rfl rfl (by kernel_rfl) Try.func3 (by kernel_rfl)
    (of_decide_eq_true (by kernel_rfl)) (by unfold Func.isWrapper; first | (rw [if_pos (by decide +kernel)]; kernel_rfl) | (rw [if_neg (by decide +kernel)]; exact ⟨rfl, rfl⟩))
    (fun os started H enc _ => lifted os started H enc)
#print axioms holds
end lawTopCached
end Go.Proofs.Ytgkfmpkankjkdaa

/- 2 texts in one: each says ahead of itself what is proved, and its conditions. -/
import Derived.Test.YthfbjfocmnikaaaGreatDoorIns
import Derived.Test.YthfbjfocmnikaaaGreatDoorRefApply
import Derived.Test.YthfbjfocmnikaaaGreatDoorRefIn
/- The program's document and the reference's, played beside each other: the round of such a loop. By the contracts of both. Conditions: the ops can be read. -/
namespace Go.Proofs.YthfbjfocmnikaaaGreatDoor
open Go.RowKit
set_option linter.unusedVariables false
/-- The two documents, to which the same ops were applied. -/
def PlayAt (w : World) (B b1 b2 n : Nat) (wr : World) : Prop := ∃ st S1 S2 D1 D2, Twin w B b1 b2 st st wr S1 S2 D1 D2 ∧ st.Ok ∧ Says st.ops st ∧ st.ops.length ≤ n
theorem PlayAt.more {w wr : World} {B b1 b2 n m : Nat} (h : PlayAt w B b1 b2 n wr) (hm : n ≤ m) : PlayAt w B b1 b2 m wr := by
  obtain ⟨st, S1, S2, D1, D2, h1, h2, h3, h4⟩ := h
  exact ⟨st, S1, S2, D1, D2, h1, h2, h3, by omega⟩
theorem PlayAt.below {w wr : World} {B b1 b2 n : Nat} (h : PlayAt w B b1 b2 n wr) : Below w.heap.size w wr := by
  obtain ⟨st, S1, S2, D1, D2, h1, _⟩ := h
  exact h1.below
theorem Seat.of_arg {w wr : World} {B : Nat} {S T : List Nat} {size n : Nat} {A : Option Addr} {xs : List Value} (h : Reads w w.heap.size size A n xs) (hb : Below w.heap.size w wr) (hB : w.heap.size ≤ B) (hT : ∀ g ∈ T, B ≤ g) : Seat wr B S T size A n xs := by
  refine ⟨(h.below hb).more hb.size, fun hn g hg => ?_, fun hn g hg hm => ?_⟩
  · obtain ⟨ad, e, hlt, _⟩ := h.2 hn
    rw [e] at hg; simp [ob] at hg; exact .inl (by omega)
  · obtain ⟨ad, e, hlt, _⟩ := h.2 hn
    rw [e] at hg; simp [ob] at hg
    have := hT g hm; omega
theorem PlayAt.round {w wr : World} {B b1 b2 n : Nat} (h : PlayAt w B b1 b2 n wr) {A : Option Addr} {ys : List OpAt} (hr : Reads w w.heap.size 6 A ys.length (ocells ys)) (hg : ∀ y ∈ ys, y.Good w) {k : Nat} (hk : k < ys.length) :
    ∃ ad who nn what p letter seen ya yc, A = some ad ∧ Below w.heap.size w wr ∧ Hid (∀ W, Below w.heap.size w W → W.cell? (ad.add (k * 6)) = some (.int .i64 who) ∧ W.cell? ⟨(ad.add (k * 6)).block, (ad.add (k * 6)).off + 1, none⟩ = some (.int .i64 nn) ∧ W.cell? ⟨(ad.add (k * 6)).block, (ad.add (k * 6)).off + 2, none⟩ = some (.int .i64 what) ∧
      W.cell? ⟨(ad.add (k * 6)).block, (ad.add (k * 6)).off + 3, none⟩ = some (.string p) ∧ W.cell? ⟨(ad.add (k * 6)).block, (ad.add (k * 6)).off + 4, none⟩ = some (.int .i64 letter) ∧ W.cell? ⟨(ad.add (k * 6)).block, (ad.add (k * 6)).off + 5, none⟩ = some (.slice ya seen yc)) ∧
      Hid (Calls Tryz.prog 20 #[.pointer (some ⟨b2, 0, none⟩), .agg #[.int .i64 who, .int .i64 nn, .int .i64 what, .string p, .int .i64 letter, .slice ya seen yc]] wr (fun e w1 => ∃ (is : Bool) (ke : Int), e = .returned (.tuple #[.bool is, .int .i64 ke]) ∧ Below w.heap.size w w1 ∧
        Calls Tryz.prog 36 #[.pointer (some ⟨b1, 0, none⟩), .agg #[.int .i64 who, .int .i64 nn, .int .i64 what, .string p, .int .i64 letter, .slice ya seen yc]] w1 (fun e w2 => e = .returned (.tuple #[.bool is, errV ke]) ∧ PlayAt w B b1 b2 (n + 1) w2))) := by
  obtain ⟨st, S1, S2, D1, D2, hd, hok, hs, hl⟩ := h
  obtain ⟨ad, rfl, hcel⟩ : ∃ ad, A = some ad ∧ ∀ W, Below w.heap.size w W → W.cell? (ad.add (k * 6)) = some (.int .i64 ys[k].op.dot.who) ∧ W.cell? ⟨(ad.add (k * 6)).block, (ad.add (k * 6)).off + 1, none⟩ = some (.int .i64 ys[k].op.dot.n) ∧ W.cell? ⟨(ad.add (k * 6)).block, (ad.add (k * 6)).off + 2, none⟩ = some (.int .i64 ys[k].op.what) ∧
      W.cell? ⟨(ad.add (k * 6)).block, (ad.add (k * 6)).off + 3, none⟩ = some (.string ys[k].op.place) ∧ W.cell? ⟨(ad.add (k * 6)).block, (ad.add (k * 6)).off + 4, none⟩ = some (.int .i64 ys[k].op.letter) ∧ W.cell? ⟨(ad.add (k * 6)).block, (ad.add (k * 6)).off + 5, none⟩ = some (.slice ys[k].at_ ys[k].op.seen.length ys[k].cap) := by
    obtain ⟨ad, e, _⟩ := hr.op hk
    refine ⟨ad, e, fun W hW => ?_⟩
    obtain ⟨ad', e', _, hh⟩ := (hr.below hW).op hk
    rw [e] at e'
    injection e' with e'
    subst e'
    exact hh
  have hgood := fun W (hW : Below w.heap.size w W) => (hg _ (List.getElem_mem hk)).below hW
  have hps := (hgood wr hd.below).2.1
  have hbase := hd.base
  have HA := rapply_doc wr _ _ _ _ _ hd.two hok hs ys[k].op ys[k].at_ ys[k].cap (by unfold maxLen at hps; omega) (Seat.of_arg (hg _ (List.getElem_mem hk)).1 hd.below hd.base (fun g hg => (hd.two.own g (hd.two.sub g hg)).1))
  refine ⟨ad, _, _, _, _, _, _, _, _, rfl, hd.below, hcel, HA.mono ?_⟩
  rintro e w1 ⟨rfl, ht⟩
  obtain ⟨S', D', hd', ho', _⟩ := hd.right ht
  refine ⟨_, _, rfl, hd'.below, ?_⟩
  have HA2 := apply_doc w1 _ _ _ _ _ hd'.one hok ys[k].op ys[k].at_ ys[k].cap (by unfold maxLen at hps; omega) (hgood w1 hd'.below).1 (fun hn g hgg hm => by
    obtain ⟨ad2, e2, hlt, _⟩ := (hg _ (List.getElem_mem hk)).1.2 hn
    rw [e2] at hgg; simp [ob] at hgg
    have := (hd'.one.own g hm).1; omega)
  refine HA2.mono ?_
  rintro e w2 ⟨rfl, ht2⟩
  obtain ⟨S'', D'', hd'', _, _⟩ := hd'.left ht2
  refine ⟨rfl, _, S'', S', D'', D', hd'', LDoc.apply_ok hok _, LDoc.apply_says hok hs _, ?_⟩
  rcases LDoc.apply_three (d := st) ys[k].op with ⟨_, _, q⟩ | ⟨_, _, q⟩ | ⟨_, _, q⟩
  · rw [q]; simp; omega
  · rw [q]; omega
  · rw [q]; omega
end Go.Proofs.YthfbjfocmnikaaaGreatDoor
/- A copy of the reference's document, as it lies: plain lemmas, and a new one of the reference's, its blocks told. Conditions: none of our own. -/
namespace Go.Proofs.YthfbjfocmnikaaaGreatDoor
open Go.RowKit
set_option linter.unusedVariables false
theorem Own.ne_own {w : World} {B B' size size' n n' c c' : Nat} {e e' : TypeId} {A A' : Option Addr} {xs xs' : List Value} (h : Own w B e size A n c xs) (h' : Own w B' e' size' A' n' c' xs') (hne : e ≠ e') : ∀ g ∈ ob A, g ∉ ob A' := by
  intro g hg hm
  rcases h.2 with ⟨h1, _⟩ | ⟨g1, _, cur1, hv1, _, hb1, _⟩
  · injection h1 with h1; rw [h1] at hg; simp [ob] at hg
  · rcases h'.2 with ⟨h2, _⟩ | ⟨g2, _, cur2, hv2, _, hb2, _⟩
    · injection h2 with h2; rw [h2] at hm; simp [ob] at hm
    · injection hv1 with hv1; injection hv2 with hv2
      rw [hv1] at hg; rw [hv2] at hm
      simp [ob] at hg hm
      subst hg hm
      rw [hb1] at hb2
      simp at hb2
      exact hne hb2.2
/-- The blocks of a copy. -/
def copyBlocks (p : Nat) (A1 A2 : Option Addr) (g : Nat) (A4 : Option Addr) : List Nat := p :: (ob A1 ++ (ob A2 ++ (g :: ob A4)))
theorem rcopy_close {w w' : World} {B : Nat} {S : List Nat} {b : Nat} {st : LDoc} {D : RLay} (h : RDocIs w B S b st D) (hb : Below w.heap.size w w') {p g : Nat} {A1 A2 A4 : Option Addr} {c1 c2 c4 : Nat} (hl : st.known.length = 8) (hp : w.heap.size ≤ p)
    (hk : Blk w' p 53 #[.slice A1 st.book.length c1, .slice A2 st.marks.length c2, .slice (some ⟨g, 0, none⟩) 8 8, .slice A4 st.ops.length c4])
    (h1 : Own w' w.heap.size 115 3 A1 st.book.length c1 (lcells st.book)) (h2 : Own w' w.heap.size 136 3 A2 st.marks.length c2 (mcells st.marks))
    (h3 : Own w' w.heap.size 3 1 (some ⟨g, 0, none⟩) 8 8 (ints st.known)) (h4 : Own w' w.heap.size 30 6 A4 st.ops.length c4 (ocells D.ys)) :
    RDocIs w' B (S ++ copyBlocks p A1 A2 g A4) p st ⟨A1, c1, A2, c2, some ⟨g, 0, none⟩, 8, A4, c4, D.ys⟩ ∧ (∀ x ∈ copyBlocks p A1 A2 g A4, w.heap.size ≤ x) ∧ ∀ x ∈ (⟨A1, c1, A2, c2, some ⟨g, 0, none⟩, 8, A4, c4, D.ys⟩ : RLay).turns p, w.heap.size ≤ x := by
  have hB : B ≤ w.heap.size := by have := h.own b (h.sub b (by simp [RLay.turns])); omega
  have hlow : ∀ x ∈ copyBlocks p A1 A2 g A4, w.heap.size ≤ x ∧ x < w'.heap.size := by
    intro x hx
    unfold copyBlocks at hx
    rcases List.mem_cons.1 hx with rfl | hx
    · exact ⟨hp, hk.lt⟩
    rcases List.mem_append.1 hx with hx | hx
    · exact h1.lt x hx
    rcases List.mem_append.1 hx with hx | hx
    · exact h2.lt x hx
    rcases List.mem_cons.1 hx with rfl | hx
    · exact h3.lt _ (by simp [ob])
    · exact h4.lt x hx
  have ht : ∀ x ∈ (⟨A1, c1, A2, c2, some ⟨g, 0, none⟩, 8, A4, c4, D.ys⟩ : RLay).turns p, x ∈ copyBlocks p A1 A2 g A4 := by
    intro x hx
    unfold RLay.turns at hx
    unfold copyBlocks
    rcases List.mem_cons.1 hx with rfl | hx
    · simp
    rcases List.mem_append.1 hx with hx | hx
    · obtain rfl : x = g := by simpa [ob] using hx
      simp
    · simp [hx]
  have n1 : ∀ x ∈ ob A1, x ∉ (⟨A1, c1, A2, c2, some ⟨g, 0, none⟩, 8, A4, c4, D.ys⟩ : RLay).turns p := by
    intro x hx hm
    have e1 := h1.blk_ne hk (by decide)
    have e3 := h1.ne_own h3 (by decide) x hx
    have e4 := h1.ne_own h4 (by decide) x hx
    unfold RLay.turns at hm
    rcases List.mem_cons.1 hm with rfl | hm
    · exact e1 hx
    rcases List.mem_append.1 hm with hm | hm
    · exact e3 hm
    · exact e4 hm
  have n2 : ∀ x ∈ ob A2, x ∉ (⟨A1, c1, A2, c2, some ⟨g, 0, none⟩, 8, A4, c4, D.ys⟩ : RLay).turns p := by
    intro x hx hm
    have e1 := h2.blk_ne hk (by decide)
    have e3 := h2.ne_own h3 (by decide) x hx
    have e4 := h2.ne_own h4 (by decide) x hx
    unfold RLay.turns at hm
    rcases List.mem_cons.1 hm with rfl | hm
    · exact e1 hx
    rcases List.mem_append.1 hm with hm | hm
    · exact e3 hm
    · exact e4 hm
  refine ⟨⟨by unfold RLay.cells; simp only; rw [hl]; exact hk, ?_, ⟨h1.cap_le, by have := h1.cap_max; unfold maxLen at this; omega⟩, ?_, ⟨h2.cap_le, by have := h2.cap_max; unfold maxLen at this; omega⟩, ?_, h4.mono hB, h.same, fun y hy => ?_, fun x hx => List.mem_append_right _ (ht x hx), fun x hx => ?_⟩, fun x hx => (hlow x hx).1, fun x hx => (hlow x (ht x hx)).1⟩
  · exact ⟨h1.reads, fun _ x hx => .inr (List.mem_append_right _ (by unfold copyBlocks; simp [hx])), fun _ x hx => n1 x hx⟩
  · exact ⟨h2.reads, fun _ x hx => .inr (List.mem_append_right _ (by unfold copyBlocks; simp [hx])), fun _ x hx => n2 x hx⟩
  · show Own w' B 3 1 (some ⟨g, 0, none⟩) st.known.length 8 (ints st.known)
    rw [hl]; exact h3.mono hB
  · have hs := h.seen y hy
    refine ⟨(hs.row.below hb).more hb.size, fun hn x hx => (hs.in_ hn x hx).imp id (fun hm => List.mem_append_left _ hm), fun hn x hx hm => ?_⟩
    have := hs.lt hn x hx
    have := (hlow x (ht x hm)).1
    omega
  · rcases List.mem_append.1 hx with hx | hx
    · have := h.own x hx; have := hb.size; exact ⟨by omega, by omega⟩
    · have := hlow x hx; exact ⟨by omega, this.2⟩
def RCopyPost (w : World) (B : Nat) (S : List Nat) (st : LDoc) (e : Ending) (w' : World) : Prop :=
  ∃ p T D, e = .returned (.pointer (some ⟨p, 0, none⟩)) ∧ RDocIs w' B (S ++ T) p st D ∧ Below w.heap.size w w' ∧ (∀ x ∈ T, w.heap.size ≤ x) ∧ ∀ x ∈ D.turns p, w.heap.size ≤ x
/-- What New lays: its cells told. -/
def RNewAt (w : World) (e : Ending) (w' : World) : Prop := e = .returned (.pointer (some ⟨w.heap.size + 1, 0, none⟩)) ∧ Below w.heap.size w w' ∧ w'.heap.size = w.heap.size + 2 ∧
  Blk w' (w.heap.size + 1) 53 #[.slice none 0 0, .slice none 0 0, .slice (some ⟨w.heap.size, 0, none⟩) 8 8, .slice none 0 0] ∧ Blk w' w.heap.size 3 zeros8
set_option maxRecDepth 100000 in
theorem rnew_at (w : World) : Calls Tryz.prog 17 #[] w (RNewAt w) := by
  have hmk : (Instr.makeSlice 23 (.int .i64 8) (.int .i64 8)).run Tryz.prog w = .ok (.slice (some ⟨w.heap.size, 0, none⟩) 8 8) (w.alloc (.cells zeros8 3)) := by
    have e : madeCells #[Value.int .i64 0] 8 = zeros8 := by apply Array.ext'; simp [madeCells, zeros8, Nat.mod_one, List.range, List.range.loop]
    rw [← e]
    exact run_make_row' (P := Tryz.prog) 23 3 (.int .i64 0) 8 Tryz.underlying23 (by kernel_rfl) rfl .i64 .i64 8 (by omega) (by omega) w
  have HB : Hid (RNewAt w (.returned (.pointer (some ⟨w.heap.size + 1, 0, none⟩))) ((w.alloc (.cells zeros8 3)).alloc (.cells #[.slice none 0 0, .slice none 0 0, .slice (some ⟨w.heap.size, 0, none⟩) 8 8, .slice none 0 0] 53))) := by
    refine ⟨rfl, ((Below.refl _ _).alloc (Nat.le_refl _) _).alloc (by simp) _, by simp, ?_, (Blk.new w _ _).alloc _⟩
    have := Blk.new (w.alloc (.cells zeros8 3)) 53 #[.slice none 0 0, .slice none 0 0, .slice (some ⟨w.heap.size, 0, none⟩) 8 8, .slice none 0 0]
    rw [World.size_alloc] at this
    exact this
  generalize zeros8 = z8 at *
  go_enter Tryz.func17, Tryz.ntmps17
  go_wp2_with fail
  go_ret
  exact HB.out
/-- A new one, from B on. -/
theorem RNewAt.is {w w' : World} {e : Ending} (h : RNewAt w e w') {B : Nat} (hB : B ≤ w.heap.size) : RDocIs w' B [w.heap.size, w.heap.size + 1] (w.heap.size + 1) LDoc.new ⟨none, 0, none, 0, some ⟨w.heap.size, 0, none⟩, 8, none, 0, []⟩ := by
  obtain ⟨_, hb, hz, h1, h2⟩ := h
  have nil : ∀ (W : World) (S T : List Nat) (sz : Nat), Seat W B S T sz none 0 [] := fun W S T sz => ⟨⟨by simp, fun h => by omega⟩, fun h => by omega, fun h => by omega⟩
  refine ⟨h1, nil _ _ _ _, ⟨Nat.le_refl _, by simp⟩, nil _ _ _ _, ⟨Nat.le_refl _, by simp⟩, ?_, Own.nil _ _ _ _, rfl, by simp, ?_, ?_⟩
  · exact ⟨rfl, .inr ⟨w.heap.size, 8, zeros8, rfl, hB, h2, Nat.le_refl _, by decide, rfl, rfl⟩⟩
  · intro g hg
    simp [RLay.turns, ob] at hg
    simp; omega
  · intro g hg
    simp only [List.mem_cons, List.not_mem_nil, or_false] at hg
    omega
end Go.Proofs.YthfbjfocmnikaaaGreatDoor

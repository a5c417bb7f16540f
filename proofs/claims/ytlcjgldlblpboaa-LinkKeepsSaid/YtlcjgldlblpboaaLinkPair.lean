/- Two ends of a line, and rows of frames beside them, none of which shares memory with another. Plain lemmas over the walks. Conditions: none. -/
import Derived.Test.YtlcjgldlblpboaaLinkHear4
import Derived.Test.YtlcjgldlblpboaaLinkOut
namespace Go.Proofs.Ytlcjgldlblpboaa
open Go.RowKit
set_option linter.unusedVariables false

/-- The ends sa at ba and sb at bb; the blocks X are apart from both. -/
def PairAt (w : World) (B ba bb : Nat) (X : List Nat) (sa sb : LEnd) : Prop :=
  ∃ A ca G cg A2 ca2 G2 cg2, EndAt w B ba A ca G cg sa ∧ EndAt w B bb A2 ca2 G2 cg2 sb ∧ (∀ g ∈ endBlocks ba A G, g ∉ endBlocks bb A2 G2) ∧
    ∀ g ∈ X, B ≤ g ∧ g < w.heap.size ∧ g ∉ endBlocks ba A G ∧ g ∉ endBlocks bb A2 G2

/-- What a step did: below B nothing, and nothing in X. -/
def Step (B : Nat) (X : List Nat) (w w' : World) : Prop := Below B w w' ∧ ∃ S, Only S w w' ∧ ∀ g ∈ X, g ∉ S
theorem Step.below {B : Nat} {X : List Nat} {w w' : World} (h : Step B X w w') : Below B w w' := h.1
theorem Step.own {B B' n c size : Nat} {e : TypeId} {X : List Nat} {w w' : World} {A : Option Addr} {xs : List Value} (h : Step B X w w') (ho : Own w B' e size A n c xs) (hx : ∀ g ∈ ob A, g ∈ X) : Own w' B' e size A n c xs := by
  obtain ⟨_, S, h1, h2⟩ := h
  exact ho.only h1 (fun g hg => h2 g (hx g hg))

section
variable {w : World} {B ba bb : Nat} {X : List Nat} {sa sb : LEnd}
theorem PairAt.swap (h : PairAt w B ba bb X sa sb) : PairAt w B bb ba X sb sa := by
  obtain ⟨A, ca, G, cg, A2, ca2, G2, cg2, h1, h2, h3, h4⟩ := h
  exact ⟨A2, ca2, G2, cg2, A, ca, G, cg, h2, h1, fun g hg hm => h3 g hm hg, fun g hg => ⟨(h4 g hg).1, (h4 g hg).2.1, (h4 g hg).2.2.2, (h4 g hg).2.2.1⟩⟩
theorem PairAt.sub {Y : List Nat} (h : PairAt w B ba bb X sa sb) (hy : ∀ g ∈ Y, g ∈ X) : PairAt w B ba bb Y sa sb := by
  obtain ⟨A, ca, G, cg, A2, ca2, G2, cg2, h1, h2, h3, h4⟩ := h
  exact ⟨A, ca, G, cg, A2, ca2, G2, cg2, h1, h2, h3, fun g hg => h4 g (hy g hg)⟩
theorem PairAt.base (h : PairAt w B ba bb X sa sb) : B ≤ w.heap.size := by
  obtain ⟨A, ca, G, cg, A2, ca2, G2, cg2, h1, _⟩ := h
  have := h1.base
  have := h1.blk.lt
  omega
/-- A step that turned nothing that was there. -/
theorem PairAt.later {w' : World} (h : PairAt w B ba bb X sa sb) (hb : Below w.heap.size w w') : PairAt w' B ba bb X sa sb := by
  obtain ⟨A, ca, G, cg, A2, ca2, G2, cg2, h1, h2, h3, h4⟩ := h
  exact ⟨A, ca, G, cg, A2, ca2, G2, cg2, h1.below hb, h2.below hb, h3, fun g hg => ⟨(h4 g hg).1, Nat.lt_of_lt_of_le (h4 g hg).2.1 hb.size, (h4 g hg).2.2⟩⟩
/-- The end at ba, and what to do with it. -/
theorem PairAt.fst (h : PairAt w B ba bb X sa sb) : ∃ A ca G cg, EndAt w B ba A ca G cg sa ∧
    ∀ sa' w', EndTo w B ba A G sa' w' → PairAt w' B ba bb X sa' sb ∧ Step B X w w' := by
  obtain ⟨A, ca, G, cg, A2, ca2, G2, cg2, h1, h2, h3, h4⟩ := h
  refine ⟨A, ca, G, cg, h1, fun sa' w' ⟨A', ca', G', cg', e1, e2, e3⟩ => ?_⟩
  refine ⟨⟨A', ca', G', cg', A2, ca2, G2, cg2, e1, h2.keep e2 (fun g hg hm => h3 g hm hg), ?_, ?_⟩, ?_, _, e2, fun g hg => (h4 g hg).2.2.1⟩
  · intro g hg hm
    rcases e3 g hg with hx | hx
    · exact h3 g hx hm
    · have := (h2.lt g hm).2; omega
  · intro g hg
    obtain ⟨k0, k1, k2, k3⟩ := h4 g hg
    refine ⟨k0, Nat.lt_of_lt_of_le k1 e2.size, fun hm => ?_, k3⟩
    rcases e3 g hm with hx | hx
    · exact k2 hx
    · omega
  · have hb := h1.base
    have hl := h1.blk.lt
    exact e2.below (by omega) (fun i hi => (h1.lt i hi).1)
/-- The end at ba says what it says; the frames lie apart. -/
theorem PairAt.out (h : PairAt w B ba bb X sa sb) (ok : sa.Ok) :
    Calls Try.prog 7 #[.pointer (some ⟨ba, 0, none⟩)] w fun e w' => ∃ V c, e = .returned (.slice V sa.outFrames.length c) ∧
      Own w' w.heap.size 33 3 V sa.outFrames.length c (fcells sa.outFrames) ∧ PairAt w' B ba bb (X ++ ob V) sa.out sb ∧ Step B X w w' := by
  obtain ⟨A, ca, G, cg, A2, ca2, G2, cg2, h1, h2, h3, h4⟩ := h
  refine (out_any w B ba A ca G cg sa h1 ok).mono ?_
  rintro e w' ⟨V, c, rfl, hO, hE, hL⟩
  refine ⟨V, c, rfl, hO, ⟨A, ca, G, cg, A2, ca2, G2, cg2, hE, h2.keep hL (fun g hg hm => ?_), h3, ?_⟩, ?_, [ba], hL, fun g hg hm => ?_⟩
  · simp at hm; subst hm
    exact h3 g (by simp [endBlocks]) hg
  · intro g hg
    rcases List.mem_append.1 hg with hg | hg
    · obtain ⟨k0, k1, k2⟩ := h4 g hg
      exact ⟨k0, Nat.lt_of_lt_of_le k1 hL.size, k2⟩
    · obtain ⟨k0, k1⟩ := hO.lt g hg
      have := h1.base
      have := h1.blk.lt
      refine ⟨by omega, k1, fun hm => ?_, fun hm => ?_⟩
      · have := (h1.lt g hm).2; omega
      · have := (h2.lt g hm).2; omega
  · have := h1.base
    have := h1.blk.lt
    exact hL.below (by omega) (fun i hi => by simp at hi; subst hi; exact h1.base)
  · simp at hm; subst hm
    exact (h4 g hg).2.2.1 (by simp [endBlocks])
end
end Go.Proofs.Ytlcjgldlblpboaa

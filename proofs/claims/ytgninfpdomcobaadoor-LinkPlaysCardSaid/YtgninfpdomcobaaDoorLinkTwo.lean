/- The program's end and the document's, beside each other. Plain. -/
import Derived.Test.YtgninfpdomcobaaDoorRefHear
namespace Go.Proofs.YtgninfpdomcobaaDoor
open Go.RowKit
set_option linter.unusedVariables false

structure Two (w : World) (B b rb : Nat) (A : Option Addr) (ca : Nat) (G : Option Addr) (cg : Nat) (RA : Option Addr) (rca : Nat) (RG : Option Addr) (rcg : Nat) (gone : List ByteArray) (st rt : LEnd) : Prop where
  e : EndAt w B b A ca G cg st
  r : REndAt w B rb RA rca RG rcg gone rt
  far : ∀ g ∈ endBlocks b A G, g ∉ endBlocks rb RA RG
section
variable {w w' : World} {B b rb ca cg rca rcg : Nat} {A G RA RG : Option Addr} {gone : List ByteArray} {st rt st' : LEnd}
theorem Two.below (h : Two w B b rb A ca G cg RA rca RG rcg gone st rt) (hb : Below w.heap.size w w') : Two w' B b rb A ca G cg RA rca RG rcg gone st rt :=
  ⟨h.e.below hb, h.r.below hb, h.far⟩
/-- The program's end goes on. -/
theorem Two.step (h : Two w B b rb A ca G cg RA rca RG rcg gone st rt) (hE : EndTo w B b A G st' w') : ∃ A' ca' G' cg', Two w' B b rb A' ca' G' cg' RA rca RG rcg gone st' rt := by
  obtain ⟨A', ca', G', cg', he, ho, hn⟩ := hE
  refine ⟨A', ca', G', cg', he, h.r.keep ho (fun g hg hm => h.far g hm hg), fun g hg hm => ?_⟩
  rcases hn g hg with h1 | h1
  · exact h.far g h1 hm
  · have := (h.r.lt g hm).2; omega
/-- The document's end goes on. -/
theorem Two.rstep (h : Two w B b rb A ca G cg RA rca RG rcg gone st rt) (hE : REndTo w B rb RA RG st' w') : ∃ RA' rca' RG' rcg' gone', Two w' B b rb A ca G cg RA' rca' RG' rcg' gone' st st' := by
  obtain ⟨A', ca', G', cg', gone', he, ho, hn⟩ := hE
  refine ⟨A', ca', G', cg', gone', h.e.keep ho (fun g hg hm => h.far g hg hm), he, fun g hg hm => ?_⟩
  rcases hn g hm with h1 | h1
  · exact h.far g hg h1
  · have := (h.e.lt g hg).2; omega
/-- The program's end, its rows as they were. -/
theorem Two.turn (h : Two w B b rb A ca G cg RA rca RG rcg gone st rt) (he : EndAt w' B b A ca G cg st') (ho : Only [b] w w') : Two w' B b rb A ca G cg RA rca RG rcg gone st' rt :=
  ⟨he, h.r.keep ho (fun g hg hm => by simp at hm; subst hm; exact h.far _ (by simp [endBlocks]) hg), h.far⟩
theorem Two.rturn (h : Two w B b rb A ca G cg RA rca RG rcg gone st rt) (he : REndAt w' B rb RA rca RG rcg gone st') (ho : Only [rb] w w') : Two w' B b rb A ca G cg RA rca RG rcg gone st st' :=
  ⟨h.e.keep ho (fun g hg hm => by simp at hm; subst hm; exact h.far _ hg (by simp [endBlocks])), he, h.far⟩
end
end Go.Proofs.YtgninfpdomcobaaDoor

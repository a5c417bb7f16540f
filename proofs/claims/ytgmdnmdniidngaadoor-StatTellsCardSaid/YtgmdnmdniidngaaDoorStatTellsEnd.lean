/- 2 texts in one: each says ahead of itself what is proved, and its conditions. -/
import Derived.Test.YtgmdnmdniidngaaDoorBook
import Derived.Test.YtgmdnmdniidngaaDoorMark
import Derived.Test.YtgmdnmdniidngaaDoorOpenDot
import Derived.Test.YtgmdnmdniidngaaDoorStatTells
/- Arguments opened: leafs and marks. Plain lemmas. Conditions: none of our own. -/
namespace Go.Proofs.YtgmdnmdniidngaaDoor
open Go.RowKit Go.WideShapes Go.ChangeShapes Go.Deep
set_option linter.unusedVariables false

def LLeaf.In (x : LLeaf) : Prop := x.place.size ≤ maxLen ∧ I64 x.letter
def LMark.In (x : LMark) : Prop := x.place.size ≤ maxLen ∧ x.dot.In
theorem cellsLeaf : Tryd.prog.cellsOf 29 = 3 := by kernel_rfl
theorem cellsMark : Tryd.prog.cellsOf 94 = 3 := by kernel_rfl
theorem cellsBool : Tryd.prog.cellsOf 4 = 1 := by kernel_rfl
section
variable {H : Type} {enc : TypeId × Value → H} {w : World} {base : Nat} {spare : Nat → Bool} {held : Bool}
set_option maxRecDepth 100000 in
theorem open_leaf {fuel : Nat} {cs : List Value} {x : DataW H × List MemPlace} (h : DataW.trod enc Tryd.prog w base spare held fuel 29 cs = some x) : ∃ y : LLeaf, cs = y.cells ∧ y.In := by
  have hT := Tryd.underlying29
  have hl := trod_len hT h
  rw [cellsLeaf] at hl
  match cs, hl with
  | [c0, c1, c2], _ =>
    obtain ⟨n0, y0, g0⟩ : ∃ n y, DataW.trod enc Tryd.prog w base spare held n 9 [c0] = some y := trod_field hT h 0 _ rfl 1 cellsStr
    obtain ⟨n1, y1, g1⟩ : ∃ n y, DataW.trod enc Tryd.prog w base spare held n 3 [c1] = some y := trod_field hT h 1 _ rfl 1 cellsInt
    obtain ⟨n2, y2, g2⟩ : ∃ n y, DataW.trod enc Tryd.prog w base spare held n 4 [c2] = some y := trod_field hT h 2 _ rfl 1 cellsBool
    obtain ⟨a0, e0, _, w0⟩ := DataW.trod_string Tryd.underlying9 g0
    obtain ⟨a1, e1, _, w1⟩ := DataW.trod_int Tryd.underlying3 g1
    obtain ⟨a2, e2, _⟩ := DataW.trod_bool Tryd.underlying4 g2
    simp at e0 e1 e2
    subst e0 e1 e2
    exact ⟨⟨a0, a1, a2⟩, rfl, w0, i64_of_wf w1⟩
set_option maxRecDepth 100000 in
theorem open_mark {fuel : Nat} {cs : List Value} {x : DataW H × List MemPlace} (h : DataW.trod enc Tryd.prog w base spare held fuel 94 cs = some x) : ∃ y : LMark, cs = y.cells ∧ y.In := by
  have hT := Tryd.underlying94
  have hl := trod_len hT h
  rw [cellsMark] at hl
  match cs, hl with
  | [c0, c1, c2], _ =>
    obtain ⟨n0, y0, g0⟩ : ∃ n y, DataW.trod enc Tryd.prog w base spare held n 9 [c0] = some y := trod_field hT h 0 _ rfl 1 cellsStr
    obtain ⟨n1, y1, g1⟩ : ∃ n y, DataW.trod enc Tryd.prog w base spare held n 92 [c1, c2] = some y := trod_field hT h 1 _ rfl 2 cellsDot
    obtain ⟨a0, e0, _, w0⟩ := DataW.trod_string Tryd.underlying9 g0
    obtain ⟨d, e1, hd⟩ := open_dot g1
    simp at e0
    have e1' : [c1, c2] = [.int .i64 d.who, .int .i64 d.n] := e1
    simp at e1'
    obtain ⟨rfl, rfl⟩ := e1'
    subst e0
    exact ⟨⟨a0, d⟩, rfl, w0, hd⟩
set_option maxRecDepth 100000 in
theorem arg_leafs {r : Reach} {b0 : Nat} {v : Value} {d : DataW H} {p : List MemPlace} (hv : Value.okWide Tryd.prog w r b0 22 v) (h : DataW.Trod enc Tryd.prog w base spare held 22 v d p) :
    ∃ (A : Option Addr) (cap : Nat) (l : List LLeaf), v = .slice A l.length cap ∧ Reads w w.heap.size 3 A l.length (lcells l) ∧ (∀ y ∈ l, y.In) ∧ l.length ≤ cap ∧ cap ≤ maxLen := by
  obtain ⟨a, len, c, rfl⟩ := okWide_slice Tryd.underlying22 hv
  obtain ⟨fuel, hf⟩ := h
  obtain ⟨A, cap, l, e, hr⟩ := open_list LLeaf.cells LLeaf.In Tryd.underlying22 cellsLeaf (by decide) LLeaf.cells_len (fun _ _ _ h => open_leaf h) hf
  refine ⟨A, cap, l, ?_, hr⟩
  have e' : [Value.slice a len c] = [.slice A l.length cap] := e
  injection e'
set_option maxRecDepth 100000 in
theorem arg_marks {r : Reach} {b0 : Nat} {v : Value} {d : DataW H} {p : List MemPlace} (hv : Value.okWide Tryd.prog w r b0 60 v) (h : DataW.Trod enc Tryd.prog w base spare held 60 v d p) :
    ∃ (A : Option Addr) (cap : Nat) (l : List LMark), v = .slice A l.length cap ∧ Reads w w.heap.size 3 A l.length (mcells l) ∧ (∀ y ∈ l, y.In) ∧ l.length ≤ cap ∧ cap ≤ maxLen := by
  obtain ⟨a, len, c, rfl⟩ := okWide_slice Tryd.underlying60 hv
  obtain ⟨fuel, hf⟩ := h
  obtain ⟨A, cap, l, e, hr⟩ := open_list LMark.cells LMark.In Tryd.underlying60 cellsMark (by decide) LMark.cells_len (fun _ _ _ h => open_mark h) hf
  refine ⟨A, cap, l, ?_, hr⟩
  have e' : [Value.slice a len c] = [.slice A l.length cap] := e
  injection e'
set_option maxRecDepth 100000 in
theorem arg_mark {r : Reach} {b0 : Nat} {v : Value} {d : DataW H} {p : List MemPlace} (hv : Value.okWide Tryd.prog w r b0 94 v) (h : DataW.Trod enc Tryd.prog w base spare held 94 v d p) :
    ∃ y : LMark, v = .agg #[.string y.place, .int .i64 y.dot.who, .int .i64 y.dot.n] ∧ y.In := by
  obtain ⟨cs, rfl, _⟩ := okWide_struct Tryd.underlying94 hv
  obtain ⟨fuel, hf⟩ := h
  obtain ⟨y, e, hg⟩ := open_mark hf
  refine ⟨y, ?_, hg⟩
  have : cs = y.cells.toArray := Array.ext' e
  rw [this]
  rfl
end
end Go.Proofs.YtgmdnmdniidngaaDoor
/- leaflaw3.StatTells: the statement. Conditions: the library has its one variable as its text lays it (the card ties it). -/
namespace Go.Proofs.YtgmdnmdniidngaaDoor
open Go.RowKit Go.WideShapes Go.ChangeShapes Go.ChangeAt
set_option linter.unusedVariables false
namespace lawStatTells
set_option maxRecDepth 100000 in
theorem lifted (os : Os) (started : os.Started) (H : Type) (enc : TypeId × Value → H) :
    ReturnsInHanded {} Tryd.checked os 3 .any (fun w args => (Rows.statTellsSpec.pre enc Tryd.prog Tryd.f3 [] false w args ∧ laidMetH Tryd.prog Card.laid w) ∧ sizedMet enc Tryd.prog Tryd.f3 (OpenSpec.ofChange Rows.statTellsSpec) false w args)
      (Rows.statTellsSpec.post enc Tryd.prog Tryd.f3 false true false false) := by
  refine returnsInHanded_of_change_and (C := Tryd.checked) (X := fun w _ => laidMetH Tryd.prog Card.laid w) (fun _ _ _ hh h => h.of_heap hh) Tryd.own started (by kernel_rfl) Tryd.func3
    (ChangeSpec.witness_at (enc := enc) (C := Tryd.checked) (os := os) (X := fun w _ => laidMetH Tryd.prog Card.laid w) false (Card.laidWorld os) #[.slice none 0 0] 8 rfl (by kernel_rfl) (by kernel_rfl) (by kernel_rfl) (by kernel_rfl) (by kernel_rfl) (Card.laidWorld_met os _)) ?_
  intro W base args ds gs before hval0 hW _ hsz0 hL _
  have hval : ∀ (j : Nat) t v, Tryd.f3.params[j]? = some t → args[j]? = some v → Value.okWide Tryd.prog W .any base t v := hval0
  obtain ⟨p, q, hA0, _⟩ := id hW
  have hA : DataW.TrodAll enc Tryd.prog W 0 (fun _ => true) true Tryd.f3.params.toList args.toList ds p := hA0
  have hsz : (DataW.weightsEach Tryd.prog (Tryd.f3.params.toList ++ Rows.statTellsSpec.plain.varTypes Tryd.prog) (ds ++ gs)).all (· ≤ reachBytes) = true := hsz0
  rw [Tryd.params3] at hA hval hsz
  obtain ⟨v0, d0, rfl, rfl, h0⟩ := trodAll_one hA
  obtain ⟨A0, c0, l0, rfl, r0, g0, lc0, cm0⟩ := arg_leafs (hval 0 22 v0 rfl rfl) h0
  refine (walk W A0 c0 l0 (Card.glob_of_laid hL) r0 (fun x hx => by have := (g0 x hx).1; unfold maxLen at this; omega) (by unfold maxLen at cm0; omega)).mono fun e W' ⟨he, hb⟩ => ⟨_, he, ?_⟩
  exact law_post Tryd.laidOut (tb := 4) (by kernel_rfl) Tryd.underlying4 (by rw [Tryd.params3]; simp only [List.mem_cons, List.not_mem_nil, or_false]; rintro t (rfl) <;> exact ⟨by kernel_rfl, of_decide_eq_true (by kernel_rfl)⟩) rfl rfl hW hb

theorem holds : Rows.StatTellsSaid :=
  OpenClaim.holds_of_wide 3 Tryd.f3 rfl rfl rfl rfl rfl rfl rfl ⟨rfl, rfl, rfl, rfl, rfl⟩ rfl rfl rfl rfl rfl (by kernel_rfl) Tryd.func3 (by kernel_rfl)
    (of_decide_eq_true (by kernel_rfl)) (by unfold Func.isWrapper; first | (rw [if_pos (by decide +kernel)]; kernel_rfl) | (rw [if_neg (by decide +kernel)]; exact ⟨rfl, rfl⟩))
    (fun os started H enc _ => lifted os started H enc)
theorem noStand : ∀ t ∈ Tryd.f3.params.toList, Tryd.prog.wantsStandIn t = false := by
  rw [Tryd.params3]
  simp only [List.mem_cons, List.not_mem_nil, or_false]
  rintro t (rfl) <;> kernel_rfl
theorem card_holds : Rows.StatTellsCardSaid :=
  Claim7.holds_tied_plain_at .later [] [.handle] true Rows.statTellsCard.stood.harness true
    holds (fun _ h => by cases h) (by kernel_rfl) (fun _ h => by cases h) statTells_row_tie rfl ⟨rfl, rfl⟩ (by kernel_rfl) rfl
    (fun f fn hf hfn => by
      obtain rfl : f = 3 := Option.some.inj ((show Tryd.prog.funcNamed Rows.statTellsRow.func = some 3 by kernel_rfl).symm.trans hf) |>.symm
      obtain rfl : fn = Tryd.f3 := (Option.some.inj (Tryd.func3.symm.trans hfn)).symm
      exact ⟨by kernel_rfl, fun j t ht => noStand t (by
        have := Array.mem_of_getElem? ht
        simpa using this)⟩)
    (by kernel_rfl)
#print axioms card_holds

end lawStatTells
end Go.Proofs.YtgmdnmdniidngaaDoor

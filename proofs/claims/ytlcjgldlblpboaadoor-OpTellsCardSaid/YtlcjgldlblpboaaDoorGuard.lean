/- guard's two contracts (a frame that panics with wrong{}; one that returns), and the closures' ones. -/
import Derived.Defers
import Derived.Laws.Pointers
import Derived.Recover
import Derived.Test.YtlcjgldlblpboaaDoorOpEnc
import Derived.Test.YtlcjgldlblpboaaDoorReadOp
namespace Go.Proofs.YtlcjgldlblpboaaDoor
open Go.RowKit
set_option linter.unusedVariables false
def caughtP : List PanicEntry := [{ v := .iface 77 (.agg #[]), recovered := true }]
set_option maxRecDepth 100000 in
theorem guard_caught (g : Nat) (t : TypeId) (v : Value) (w : World) (h : Blk w g t #[v]) :
    CallsD Tryd.prog 30 #[.pointer (some ⟨g, 0, none⟩)] (.panicking wrongP) w fun e u' w' =>
      e = .returned (.tuple #[]) ∧ u' = .panicking caughtP ∧ w' = (w.alloc (.cells #[] 77)).setCell ⟨g, 0, none⟩ (errV 2) := by
  have hta : ∀ (w : World) (t : TypeId), (Instr.typeAssert (.iface 77 (.agg #[])) t 77 true).run Tryd.prog w = .ok (.tuple #[.agg #[], .bool true]) w := fun _ _ => by kernel_rfl
  have c1 : (w.alloc (.cells #[] 77)).cell? ⟨g, 0, none⟩ = some v := by rw [(h.alloc _).cell]; rfl
  have f1 : (w.alloc (.cells #[] 77)).frozen? ⟨g, 0, none⟩ = false := (h.alloc _).frozen 0
  clear h
  refine callsD_of_wpS Tryd.func30 rfl fun c₀ cs hu => ?_
  apply wpS_seq
  apply wpS_region
  simp [wpOpsS, go_sem, recoverD, hu, wrongP, Tryd.ntmps30, Exit.thenS]
  refine wpS_of_wp ?_
  go_wp2
  cases c₀
  simp_all [bodyPostS, results, Tryd.results30, errV, caughtP]
set_option maxRecDepth 100000 in
theorem guard_idle (p : Addr) (w : World) :
    CallsD Tryd.prog 30 #[.pointer (some p)] .returning w fun e u' w' => e = .returned (.tuple #[]) ∧ u' = .returning ∧ w' = w := by
  refine callsD_of_wpS Tryd.func30 rfl fun c₀ cs hu => ?_
  apply wpS_seq
  apply wpS_region
  simp [wpOpsS, go_sem, recoverD, hu, Tryd.ntmps30, Exit.thenS]
  refine wpS_of_wp ?_
  go_wp2
  cases c₀
  simp_all [bodyPostS, results, Tryd.results30]
theorem results_cells2 {fn : Func} {p q : Tmp} {ty tz : TypeId} (h : fn.results = #[.cell p ty, .cell q tz]) (tmps : Array Value) (w : World) (A B : Addr) (va vb : Value)
    (hp : tmps.getD p undef = .pointer (some A)) (hq : tmps.getD q undef = .pointer (some B)) (ha : (loadVar ty A).run Tryd.prog w = .ok va w) (hb : (loadVar tz B).run Tryd.prog w = .ok vb w) :
    (results fn tmps).run Tryd.prog w = .ok (.tuple #[va, vb]) w := by
  have hp' : tmps[p]?.getD undef = .pointer (some A) := by simpa using hp
  have hq' : tmps[q]?.getD undef = .pointer (some B) := by simpa using hq
  simp [results, h, hp', hq', asAddr, ha, hb]
theorem load_err (w : World) (g : Nat) (t : TypeId) (v : Value) (h : Blk w g t #[v]) : (loadVar 31 ⟨g, 0, none⟩).run Tryd.prog w = .ok v w := by
  have c : w.cell? ⟨g, 0, none⟩ = some v := by rw [h.cell]; rfl
  simp [go_sem, loadVar, c]
theorem load_op (w : World) (g : Nat) (v0 v1 v2 v3 v4 v5 : Value) (h : Blk w g 26 #[v0, v1, v2, v3, v4, v5]) : (loadVar 26 ⟨g, 0, none⟩).run Tryd.prog w = .ok (.agg #[v0, v1, v2, v3, v4, v5]) w :=
  run_loadVar_row w g 26 26 _ (0, 0) _ h Tryd.underlying26 rfl (by kernel_rfl)
set_option maxRecDepth 100000 in
theorem dclose_nil (w : World) (g1 g0 : Nat) (t : TypeId) (u : FrameMode) (h : Blk w g1 t #[.nilIface]) :
    CallsD Tryd.prog 29 #[.pointer (some ⟨g1, 0, none⟩), .pointer (some ⟨g0, 0, none⟩)] u w fun e u' w' => u' = u ∧ (e = .returned (.tuple #[]) ∧ w' = w) := by
  have c : w.cell? ⟨g1, 0, none⟩ = some .nilIface := by rw [h.cell]; rfl
  clear h
  go_enter_d Tryd.func29, Tryd.ntmps29
  go_wp2
  go_end0
  exact ⟨rfl, rfl⟩
set_option maxRecDepth 100000 in
theorem dclose_err (w : World) (g1 g0 : Nat) (t : TypeId) (u : FrameMode) (n : Int) (hn : n ≠ 0) (h : Blk w g1 t #[errV n]) (v0 v1 v2 v3 v4 v5 : Value) (h0 : Blk w g0 26 #[v0, v1, v2, v3, v4, v5]) :
    CallsD Tryd.prog 29 #[.pointer (some ⟨g1, 0, none⟩), .pointer (some ⟨g0, 0, none⟩)] u w fun e u' w' => u' = u ∧ (e = .returned (.tuple #[]) ∧
      Blk w' g0 26 #[.int .i64 0, .int .i64 0, .int .i64 0, .string ⟨#[]⟩, .int .i64 0, .slice none 0 0] ∧ Only [g0] w w') := by
  have c : w.cell? ⟨g1, 0, none⟩ = some (.iface 53 (.int .i64 n)) := by rw [h.cell, errV, if_neg hn]; rfl
  have hq := h0.set6 (.int .i64 0) (.int .i64 0) (.int .i64 0) (.string ⟨#[]⟩) (.int .i64 0) (.slice none 0 0)
  have ho := set6_only w g0 (.int .i64 0) (.int .i64 0) (.int .i64 0) (.string ⟨#[]⟩) (.int .i64 0) (.slice none 0 0)
  have x0 : w.cell? ⟨g0, 0, none⟩ = some v0 := h0.cell 0
  have x1 : w.cell? ⟨g0, 1, none⟩ = some v1 := h0.cell 1
  have x2 : w.cell? ⟨g0, 2, none⟩ = some v2 := h0.cell 2
  have x3 : w.cell? ⟨g0, 3, none⟩ = some v3 := h0.cell 3
  have x4 : w.cell? ⟨g0, 4, none⟩ = some v4 := h0.cell 4
  have x5 : w.cell? ⟨g0, 5, none⟩ = some v5 := h0.cell 5
  have y0 := h0.frozen 0
  have y1 := h0.frozen 1
  have y2 := h0.frozen 2
  have y3 := h0.frozen 3
  have y4 := h0.frozen 4
  have y5 := h0.frozen 5
  have HQ := Lib.hid hq
  have HO := Lib.hid ho
  clear h h0 hq ho
  go_enter_d Tryd.func29, Tryd.ntmps29
  go_wp2
  go_end0
  exact ⟨rfl, HQ.out, HO.out⟩
end Go.Proofs.YtlcjgldlblpboaaDoor

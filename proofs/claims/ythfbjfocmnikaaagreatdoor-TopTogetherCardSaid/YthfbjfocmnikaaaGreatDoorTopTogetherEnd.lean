/- 9 texts in one: each says ahead of itself what is proved, and its conditions. -/
import Derived.Below
import Derived.ChangeSame
import Derived.ChangeVars
import Derived.Deep.CutBlock
import Derived.Deep.LoopGhost
import Derived.JoinedOf
import Derived.LaidEql
import Derived.LaidHandle
import Derived.LaidLaws
import Derived.ProofKit
import Derived.RowKit
import Derived.RowKitTokens
import Derived.SevenTiedAt
import Derived.SizedLaws
import Derived.Stop.Asserts
import Derived.Test.YthfbjfocmnikaaaGreatDoorCards
import Derived.Test.YthfbjfocmnikaaaGreatDoorRows
import Derived.Test.YthfbjfocmnikaaaGreatDoorTie
import Derived.WalkKit
import Derived.Test.YthfbjfocmnikaaaGreatDoorDocKnown
import Derived.Test.YthfbjfocmnikaaaGreatDoorHi
import Derived.Test.YthfbjfocmnikaaaGreatDoorNetScene
import Derived.Test.YthfbjfocmnikaaaGreatDoorNetSpec
import Derived.Test.YthfbjfocmnikaaaGreatDoorPlaceCheck
import Derived.Test.YthfbjfocmnikaaaGreatDoorRefPlace
import Derived.Test.YthfbjfocmnikaaaGreatDoorSameLeafs
import Derived.Test.YthfbjfocmnikaaaGreatDoorShelfCmp
import Derived.Test.YthfbjfocmnikaaaGreatDoorSmall
import Derived.Test.YthfbjfocmnikaaaGreatDoorTogTail
/- errors.As at an Errno. Conditions: the library's one variable holds what its text lays. (After the guide's worked toy on errors.As.) -/
namespace Go.Proofs.YthfbjfocmnikaaaGreatDoor
open Go.RowKit Go.Extern.Stop Go.Stop Go.Extern
set_option linter.unusedVariables false
namespace As

theorem valueOfP (t : Addr) (w : World) : (ReflectliteValue.unpack (.iface 206 (.pointer (some t)))).run Tryz.prog w
    = .ok (.agg #[.pointer (some ⟨2, 206, none⟩), .pointer (some ⟨w.heap.size, 0, none⟩), .int .u64 150]) (w.alloc (.cells #[.pointer (some t)] 206)) := by kernel_rfl
theorem typeP (a : Addr) (w : World) : (ReflectliteValue.methodAny (ReflectliteValue.valueError "reflectlite.Value.Type" 0) (fun t _ _ _ => ReflectliteType.toType t) #[.agg #[.pointer (some ⟨2, 206, none⟩), .pointer (some a), .int .u64 150]]).run Tryz.prog w
    = .ok (.iface 300 (.agg #[.pointer (some ⟨2, 206, none⟩)])) w := by kernel_rfl
theorem kindP (w : World) : ((ReflectliteType.abiMethod fun t => (fun a : Nat => Value.int IntKind.u8 (a : Int)) <$> Rtype.kind t) #[.pointer (some ⟨2, 206, none⟩)]).run Tryz.prog w = .ok (.int .u8 22) w := by kernel_rfl
theorem kindE (w : World) : ((ReflectliteType.abiMethod fun t => (fun a : Nat => Value.int IntKind.u8 (a : Int)) <$> Rtype.kind t) #[.pointer (some ⟨2, 119, none⟩)]).run Tryz.prog w = .ok (.int .u8 2) w := by kernel_rfl
theorem rlm (z : Sem Value) (f : TypeId → Addr → Nat → Nat → Sem Value) (v : Value) :
    ReflectliteValue.method z f #[v] = (do match ← ReflectliteValue.parts v with | none => z | some (t, a, fl) => f t a fl (fl % 32)) := rfl
theorem partsP (a : Addr) (w : World) : (ReflectliteValue.parts (.agg #[.pointer (some ⟨2, 206, none⟩), .pointer (some a), .int .u64 150])).run Tryz.prog w = .ok (some (206, a, 150)) w := by kernel_rfl
theorem isNilP (a p : Addr) (W : World) (ha : W.cell? a = some (.pointer (some p))) :
    (ReflectliteValue.method (ReflectliteValue.valueError "reflectlite.Value.IsNil" 0) ReflectliteValue.isNil #[.agg #[.pointer (some ⟨2, 206, none⟩), .pointer (some a), .int .u64 150]]).run Tryz.prog W = .ok (.bool false) W := by
  rw [rlm]
  simp only [Sem.run_bind, partsP, Result.andThen]
  simp [ReflectliteValue.isNil, loadVar, isAgg, underlying, Tryz.underlying206, ha, Result.andThen]
theorem elemP (w : World) : (ReflectliteType.method ReflectliteType.elem #[.agg #[.pointer (some ⟨2, 206, none⟩)]]).run Tryz.prog w = .ok (.iface 300 (.agg #[.pointer (some ⟨2, 119, none⟩)])) w := by kernel_rfl
theorem implementsE (w : World) : (ReflectliteType.relation "Implements" ReflectliteType.implements_ #[.agg #[.pointer (some ⟨2, 119, none⟩)], .iface 300 (.agg #[.pointer (some ⟨2, 32, none⟩)])]).run Tryz.prog w = .ok (.bool true) w := by kernel_rfl
theorem typeOfE (v : Value) (w : World) : (ReflectliteType.typeOf #[.iface 119 v]).run Tryz.prog w = .ok (.iface 300 (.agg #[.pointer (some ⟨2, 119, none⟩)])) w := by kernel_rfl
theorem assignableE (w : World) : (ReflectliteType.relation "AssignableTo" ReflectliteType.assignableTo #[.agg #[.pointer (some ⟨2, 119, none⟩)], .iface 300 (.agg #[.pointer (some ⟨2, 119, none⟩)])]).run Tryz.prog w = .ok (.bool true) w := by kernel_rfl
theorem valueOfE (n : Int) (w : World) : (ReflectliteValue.unpack (.iface 119 (.int .i64 n))).run Tryz.prog w
    = .ok (.agg #[.pointer (some ⟨2, 119, none⟩), .pointer (some ⟨w.heap.size, 0, none⟩), .int .u64 130]) (w.alloc (.cells #[.int .i64 n] 119)) := by kernel_rfl
theorem elemOfP (w : World) : (Rtype.elem? 206).run Tryz.prog w = .ok (some 119) w := by kernel_rfl
theorem mkE (p : Addr) (w : World) : (ReflectliteValue.mk 119 p ReflectliteValue.flagAddr).run Tryz.prog w = .ok (.agg #[.pointer (some ⟨2, 119, none⟩), .pointer (some p), .int .u64 386]) w := by kernel_rfl
theorem elemVP (a p : Addr) (W : World) (ha : W.cell? a = some (.pointer (some p))) :
    (ReflectliteValue.method (ReflectliteValue.valueError "reflectlite.Value.Elem" 0) ReflectliteValue.elem #[.agg #[.pointer (some ⟨2, 206, none⟩), .pointer (some a), .int .u64 150]]).run Tryz.prog W
      = .ok (.agg #[.pointer (some ⟨2, 119, none⟩), .pointer (some p), .int .u64 386]) W := by
  rw [rlm]
  simp only [Sem.run_bind, partsP, Result.andThen]
  simp [ReflectliteValue.elem, loadVar, isAgg, underlying, Tryz.underlying206, ha, Result.andThen, elemOfP, mkE]
theorem methodKind (k : Nat) (h : Value) (w : World) : (Go.method (k + 3) 300 (.agg #[h]) "Kind").run Tryz.prog w = .ok (282, h) w := by kernel_rfl
theorem methodElem (k : Nat) (h : Value) (w : World) : (Go.method (k + 3) 300 (.agg #[h]) "Elem").run Tryz.prog w = .ok (293, .agg #[h]) w := by kernel_rfl
theorem methodImplements (k : Nat) (h : Value) (w : World) : (Go.method (k + 3) 300 (.agg #[h]) "Implements").run Tryz.prog w = .ok (294, .agg #[h]) w := by kernel_rfl
theorem methodAssignableTo (k : Nat) (h : Value) (w : World) : (Go.method (k + 3) 300 (.agg #[h]) "AssignableTo").run Tryz.prog w = .ok (291, .agg #[h]) w := by kernel_rfl
theorem set_run (ta b : Addr) (W : World) :
    (ReflectliteValue.set #[.agg #[.pointer (some ⟨2, 119, none⟩), .pointer (some ta), .int .u64 386], .agg #[.pointer (some ⟨2, 119, none⟩), .pointer (some b), .int .u64 130]]).run Tryz.prog W
      = (do let val ← loadVar 119 b; storeVar 119 ta val; pure (.tuple #[]) : Sem Value).run Tryz.prog W := by kernel_rfl
theorem setE (ta b : Addr) (n : Int) (old : Value) (W : World) (hb : W.cell? b = some (.int .i64 n)) (ht : W.cell? ta = some old) (hf : W.frozen? ta = false) :
    (ReflectliteValue.set #[.agg #[.pointer (some ⟨2, 119, none⟩), .pointer (some ta), .int .u64 386], .agg #[.pointer (some ⟨2, 119, none⟩), .pointer (some b), .int .u64 130]]).run Tryz.prog W
      = .ok (.tuple #[]) (W.setCell ta (.int .i64 n)) := by
  rw [set_run]
  simp only [Sem.run_bind]
  simp [loadVar, isAgg, underlying, Tryz.underlying119, hb, Result.andThen, storeVar, Value.cells, storeCells, Addr.add]
  rw [run_store Tryz.prog W ta _ _ (by rfl)]
  simp [ht, hf]
set_option maxRecDepth 100000 in
set_option maxHeartbeats 4000000 in
theorem as_hit (n : Int) (t : Addr) (old : Value) (w : World) (hg : w.cell? ⟨0, 0, none⟩ = some (.iface 300 (.agg #[.pointer (some ⟨2, 32, none⟩)]))) (ht0 : w.cell? t = some old) (hf0 : w.frozen? t = false) :
    Calls Tryz.prog 133 #[.iface 119 (.int .i64 n), .iface 206 (.pointer (some t))] w fun ev w' => ev = .returned (.bool true) ∧ w' = ((((w.alloc (.cells #[.pointer (some t)] 206)).alloc (.cells #[.pointer (some ⟨2, 206, none⟩), .pointer (some ⟨w.heap.size, 0, none⟩), .int .u64 150] 261)).alloc (.cells #[.pointer (some ⟨2, 206, none⟩), .pointer (some ⟨w.heap.size, 0, none⟩), .int .u64 150] 261)).alloc (.cells #[.int .i64 n] 119)).setCell t (.int .i64 n) := by
  have hVO := @run_callFunc_extern Tryz.prog 180 _ (fun args => ReflectliteValue.unpack (args.getD 0 (.tuple #[]))) Tryz.func180 (by kernel_rfl) (by kernel_rfl) (by kernel_rfl) (by kernel_rfl)
  have hTy := @run_callFunc_extern Tryz.prog 181 _ (ReflectliteValue.methodAny (ReflectliteValue.valueError "reflectlite.Value.Type" 0) (fun t _ _ _ => ReflectliteType.toType t)) Tryz.func181 (by kernel_rfl) (by kernel_rfl) (by kernel_rfl) (by kernel_rfl)
  have hNi := @run_callFunc_extern Tryz.prog 182 _ (ReflectliteValue.method (ReflectliteValue.valueError "reflectlite.Value.IsNil" 0) ReflectliteValue.isNil) Tryz.func182 (by kernel_rfl) (by kernel_rfl) (by kernel_rfl) (by kernel_rfl)
  have hKi := @run_callFunc_extern Tryz.prog 282 _ (ReflectliteType.abiMethod fun t => do pure (.int .u8 (← Rtype.kind t))) Tryz.func282 (by kernel_rfl) (by kernel_rfl) (by kernel_rfl) (by kernel_rfl)
  have hEl := @run_callFunc_extern Tryz.prog 293 _ (ReflectliteType.method ReflectliteType.elem) Tryz.func293 (by kernel_rfl) (by kernel_rfl) (by kernel_rfl) (by kernel_rfl)
  have hIm := @run_callFunc_extern Tryz.prog 294 _ (ReflectliteType.relation "Implements" ReflectliteType.implements_) Tryz.func294 (by kernel_rfl) (by kernel_rfl) (by kernel_rfl) (by kernel_rfl)
  have hTO := @run_callFunc_extern Tryz.prog 214 _ ReflectliteType.typeOf Tryz.func214 (by kernel_rfl) (by kernel_rfl) (by kernel_rfl) (by kernel_rfl)
  have hAs := @run_callFunc_extern Tryz.prog 291 _ (ReflectliteType.relation "AssignableTo" ReflectliteType.assignableTo) Tryz.func291 (by kernel_rfl) (by kernel_rfl) (by kernel_rfl) (by kernel_rfl)
  have hVE := @run_callFunc_extern Tryz.prog 215 _ (ReflectliteValue.method (ReflectliteValue.valueError "reflectlite.Value.Elem" 0) ReflectliteValue.elem) Tryz.func215 (by kernel_rfl) (by kernel_rfl) (by kernel_rfl) (by kernel_rfl)
  have hVS := @run_callFunc_extern Tryz.prog 216 _ ReflectliteValue.set Tryz.func216 (by kernel_rfl) (by kernel_rfl) (by kernel_rfl) (by kernel_rfl)
  have tO := typeOfE
  have a25 := assignableE
  have v25 := valueOfE
  have f6 := valueOfP
  have f7 := typeP
  have mK := methodKind
  have mE := methodElem
  have mI := methodImplements
  have mA := methodAssignableTo
  have k27 := kindP
  have k25 := kindE
  have e27 := elemP
  have i25 := implementsE
  have n8 := isNilP ⟨w.heap.size, 0, none⟩ t ((w.alloc (.cells #[.pointer (some t)] 206)).alloc (.cells #[.pointer (some ⟨2, 206, none⟩), .pointer (some ⟨w.heap.size, 0, none⟩), .int .u64 150] 261)) (by simp)
  have hlt : 0 < w.heap.size := by
    rcases Nat.lt_or_ge 0 w.heap.size with h | h1
    · exact h
    · simp [World.cell?, Array.getElem?_eq_none h1] at hg
  have hg2 : ((w.alloc (.cells #[.pointer (some t)] 206)).alloc (.cells #[.pointer (some ⟨2, 206, none⟩), .pointer (some ⟨w.heap.size, 0, none⟩), .int .u64 150] 261)).cell? ⟨0, 0, none⟩ = some (.iface 300 (.agg #[.pointer (some ⟨2, 32, none⟩)])) := by
    rw [World.cell?_alloc_lt _ _ ⟨0, 0, none⟩ (Nat.lt_of_lt_of_le hlt (by simp)), World.cell?_alloc_lt _ _ ⟨0, 0, none⟩ hlt]; exact hg
  have htl : t.block < w.heap.size := by
    rcases Nat.lt_or_ge t.block w.heap.size with h | h
    · exact h
    · simp [World.cell?, Array.getElem?_eq_none h] at ht0
  have el := elemVP ⟨w.heap.size, 0, none⟩ t (((w.alloc (.cells #[.pointer (some t)] 206)).alloc (.cells #[.pointer (some ⟨2, 206, none⟩), .pointer (some ⟨w.heap.size, 0, none⟩), .int .u64 150] 261)).alloc (.cells #[.pointer (some ⟨2, 206, none⟩), .pointer (some ⟨w.heap.size, 0, none⟩), .int .u64 150] 261)) (by rw [World.cell?_alloc_lt _ _ ⟨w.heap.size, 0, none⟩ (by simp; omega)]; simp)
  have st := setE t ⟨w.heap.size + 1 + 1 + 1, 0, none⟩ n old ((((w.alloc (.cells #[.pointer (some t)] 206)).alloc (.cells #[.pointer (some ⟨2, 206, none⟩), .pointer (some ⟨w.heap.size, 0, none⟩), .int .u64 150] 261)).alloc (.cells #[.pointer (some ⟨2, 206, none⟩), .pointer (some ⟨w.heap.size, 0, none⟩), .int .u64 150] 261)).alloc (.cells #[.int .i64 n] 119))
    (by rw [World.cell?_alloc_at _ _ _ _ (by simp)]; rfl)
    (by rw [World.cell?_alloc_lt _ _ t (by simp; omega), World.cell?_alloc_lt _ _ t (by simp; omega), World.cell?_alloc_lt _ _ t (by simp; omega), World.cell?_alloc_lt _ _ t htl]; exact ht0)
    (by rw [World.frozen?_alloc_old _ _ t (by simp; omega), World.frozen?_alloc_old _ _ t (by simp; omega), World.frozen?_alloc_old _ _ t (by simp; omega), World.frozen?_alloc_old _ _ t (Nat.ne_of_lt htl)]; exact hf0)
  go_enter Tryz.func133, Tryz.ntmps133
  go_wp2
  refine wp_loop_rounds 1 ?_
  rw [rounds_succ]
  go_wp2
  go_ret
  exact ⟨rfl, rfl⟩
end As
end Go.Proofs.YthfbjfocmnikaaaGreatDoor
/- plain.Told, leafsame.Error: the number of an error. Conditions: the library's one variable holds what its text lays. -/
namespace Go.Proofs.YthfbjfocmnikaaaGreatDoor
open Go.RowKit
set_option linter.unusedVariables false

/-- The library's one variable holds what its text lays. -/
def Glob (w : World) : Prop := w.cell? ⟨0, 0, none⟩ = some (.iface 300 (.agg #[.pointer (some ⟨2, 32, none⟩)]))
theorem Glob.lt {w : World} (h : Glob w) : 0 < w.heap.size := by
  rcases Nat.lt_or_ge 0 w.heap.size with h1 | h1
  · exact h1
  · unfold Glob at h; simp [World.cell?, Array.getElem?_eq_none h1] at h
theorem Glob.below {w w' : World} (h : Glob w) {B : Nat} (hb : Below B w w') (hB : w.heap.size ≤ B) : Glob w' := (hb.cell (p := ⟨0, 0, none⟩) (Nat.lt_of_lt_of_le h.lt hB)).trans h
theorem Glob.alloc {w : World} (h : Glob w) (o : Obj) : Glob (w.alloc o) := h.below ((Below.refl _ _).alloc (Nat.le_refl _) _) (Nat.le_refl _)

set_option maxRecDepth 100000 in
set_option maxHeartbeats 1000000 in
theorem told_any (w : World) (k : Int) (hg : Glob w) : Calls Tryz.prog 73 #[errV k] w (CheckPost w (.int .i64 k)) := by
  by_cases h : k = 0
  · subst h
    rw [show errV 0 = .nilIface from rfl]
    go_enter Tryz.func73, Tryz.ntmps73
    go_wp2_with fail
    go_ret
    exact ⟨rfl, Below.refl _ _⟩
  · rw [errV_ne h]
    have HA := Lib.hid (As.as_hit k ⟨w.heap.size, 0, none⟩ (.int .i64 0) (w.alloc (.cells #[.int .i64 0] 119)) (hg.alloc _) (by simp) (by simp))
    have hsz : w.heap.size < w.heap.size + 1 := by omega
    clear h hg
    go_enter Tryz.func73, Tryz.ntmps73
    go_wp2_with fail
    refine HA.out.mono ?_
    rintro e w1 ⟨rfl, hw1⟩
    have hc : w1.cell? ⟨w.heap.size, 0, none⟩ = some (.int .i64 k) := by
      rw [hw1]
      refine World.cell?_setCell_same _ _ _ (u := .int .i64 0) ?_
      rw [World.cell?_alloc_lt _ _ _ (by simp; omega), World.cell?_alloc_lt _ _ _ (by simp; omega), World.cell?_alloc_lt _ _ _ (by simp; omega), World.cell?_alloc_lt _ _ _ (by simp)]
      simp
    have hb : Hid (Below w.heap.size w w1) := by
      show Below _ _ _
      rw [hw1]
      exact (((((((Below.refl _ _).alloc (Nat.le_refl _) _).alloc (by simp) _).alloc (by simp; omega) _).alloc (by simp; omega) _).alloc (by simp; omega) _).setCell (by simp) _)
    clear hw1 HA
    go_wp2_with fail
    go_ret
    exact ⟨rfl, hb.out⟩
set_option maxRecDepth 100000 in
theorem error_any (w : World) (k e : Int) (hg : Glob w) : Calls Tryz.prog 21 #[errV k, .int .i64 e] w (CheckPost w (.bool (k == e))) := by
  have HT := Lib.hid (told_any w k hg)
  clear hg
  go_enter Tryz.func21, Tryz.ntmps21
  go_wp2_with fail
  refine HT.out.mono ?_
  rintro e1 w1 ⟨rfl, hb⟩
  go_wp2_with fail
  go_ret
  exact ⟨rfl, hb⟩
end Go.Proofs.YthfbjfocmnikaaaGreatDoor
/- Arguments opened: texts, numbers. Plain lemmas. Conditions: none of our own. -/
namespace Go.Proofs.YthfbjfocmnikaaaGreatDoor
open Go.RowKit Go.WideShapes Go.ChangeShapes Go.Deep
set_option linter.unusedVariables false
theorem cellsFInt : Tryz.prog.cellsOf 3 = 1 := by kernel_rfl
section
variable {H : Type} {enc : TypeId × Value → H} {w : World} {base : Nat} {spare : Nat → Bool} {held : Bool}
theorem flat_one {α : Type} (f : α → Value) (l : List α) : l.flatMap (fun x => [f x]) = l.map f := by
  induction l with
  | nil => rfl
  | cons x l ih => simp [List.flatMap_cons, ih]
set_option maxRecDepth 100000 in
theorem arg_ints {r : Reach} {b0 : Nat} {v : Value} {d : DataW H} {p : List MemPlace} (hv : Value.okWide Tryz.prog w r b0 23 v) (h : DataW.Trod enc Tryz.prog w base spare held 23 v d p) :
    ∃ (A : Option Addr) (cap : Nat) (l : List Int), v = .slice A l.length cap ∧ Reads w w.heap.size 1 A l.length (l.map (Value.int .i64)) ∧ (∀ y ∈ l, I64 y) ∧ l.length ≤ cap ∧ cap ≤ maxLen := by
  obtain ⟨a, len, c, rfl⟩ := okWide_slice Tryz.underlying23 hv
  obtain ⟨fuel, hf⟩ := h
  obtain ⟨A, cap, l, e, hr, h2⟩ := open_list (α := Int) (fun s => [.int .i64 s]) I64 Tryz.underlying23 cellsFInt (by decide) (fun _ => rfl) (fun _ cs _ h => by
    obtain ⟨s, e, _, hs⟩ := DataW.trod_int Tryz.underlying3 h
    exact ⟨s, e, i64_of_wf hs⟩) hf
  rw [flat_one] at hr
  refine ⟨A, cap, l, ?_, hr, h2⟩
  have e' : [Value.slice a len c] = [.slice A l.length cap] := e
  injection e'
end
end Go.Proofs.YthfbjfocmnikaaaGreatDoor
/- Rows of events; the argument opened. Plain lemmas. Conditions: none of our own. -/
namespace Go.Proofs.YthfbjfocmnikaaaGreatDoor
open Go.RowKit Go.WideShapes Go.ChangeShapes Go.Deep
set_option linter.unusedVariables false
instance : Inhabited LEv := ⟨⟨0, 0, 0, 0⟩⟩
theorem add_pos (a : Addr) (j : Nat) (h : 0 < j) : a.add j = ⟨a.block, a.off + j, none⟩ := by unfold Addr.add; rw [if_neg (by omega)]
def LEv.cell (e : LEv) : List Value := [.int .i64 e.what, .int .i64 e.a, .int .i64 e.b, .int .i64 e.c]
def evcells (l : List LEv) : List Value := l.flatMap LEv.cell
theorem evcells_at (l : List LEv) (i : Nat) (h : i < l.length) : (evcells l)[i * 4]? = some (.int .i64 l[i].what) ∧ (evcells l)[i * 4 + 1]? = some (.int .i64 l[i].a) ∧ (evcells l)[i * 4 + 2]? = some (.int .i64 l[i].b) ∧ (evcells l)[i * 4 + 3]? = some (.int .i64 l[i].c) := by
  induction l generalizing i with
  | nil => simp at h
  | cons p l ih =>
    cases i with
    | zero => exact ⟨rfl, rfl, rfl, rfl⟩
    | succ i =>
      have e : evcells (p :: l) = p.cell ++ evcells l := rfl
      obtain ⟨h1, h2, h3, h4⟩ := ih i (by simpa using h)
      have hl : p.cell.length = 4 := rfl
      rw [e, List.getElem?_append_right (by rw [hl]; omega), List.getElem?_append_right (by rw [hl]; omega), List.getElem?_append_right (by rw [hl]; omega), List.getElem?_append_right (by rw [hl]; omega), hl]
      simp only [List.getElem_cons_succ]
      refine ⟨?_, ?_, ?_, ?_⟩
      · rw [← h1]; congr 1; omega
      · rw [← h2]; congr 1; omega
      · rw [← h3]; congr 1; omega
      · rw [← h4]; congr 1; omega
theorem Reads.ev {w : World} {B : Nat} {A : Option Addr} {l : List LEv} (h : Reads w B 4 A l.length (evcells l)) {k : Nat} (hk : k < l.length) :
    ∃ ad, A = some ad ∧ ad.block < B ∧ w.cell? (ad.add (k * 4)) = some (.int .i64 l[k].what) ∧ w.cell? ⟨(ad.add (k * 4)).block, (ad.add (k * 4)).off + 1, none⟩ = some (.int .i64 l[k].a) ∧ w.cell? ⟨(ad.add (k * 4)).block, (ad.add (k * 4)).off + 2, none⟩ = some (.int .i64 l[k].b) ∧ w.cell? ⟨(ad.add (k * 4)).block, (ad.add (k * 4)).off + 3, none⟩ = some (.int .i64 l[k].c) := by
  obtain ⟨ad, e, hb, hc⟩ := h.2 (by omega)
  obtain ⟨h1, h2, h3, h4⟩ := evcells_at l k hk
  have key : ∀ j, 0 < j → (⟨(ad.add (k * 4)).block, (ad.add (k * 4)).off + j, none⟩ : Addr) = ad.add (k * 4 + j) := fun j hj => by
    rw [← add_of_add, add_pos _ j hj]
  exact ⟨ad, e, hb, hc _ _ h1, by rw [key 1 (by omega)]; exact hc _ _ h2, by rw [key 2 (by omega)]; exact hc _ _ h3, by rw [key 3 (by omega)]; exact hc _ _ h4⟩
theorem cellsEv : Tryz.prog.cellsOf 96 = 4 := by kernel_rfl
section
variable {H : Type} {enc : TypeId × Value → H} {w : World} {base : Nat} {spare : Nat → Bool} {held : Bool}
set_option maxRecDepth 100000 in
theorem open_ev {fuel : Nat} {cs : List Value} {x : DataW H × List MemPlace} (h : DataW.trod enc Tryz.prog w base spare held fuel 96 cs = some x) : ∃ y : LEv, cs = y.cell ∧ y.Wf := by
  have hT := Tryz.underlying96
  have hl := trod_len hT h
  rw [cellsEv] at hl
  match cs, hl with
  | [c0, c1, c2, c3], _ =>
    obtain ⟨n0, y0, g0⟩ : ∃ n y, DataW.trod enc Tryz.prog w base spare held n 3 [c0] = some y := trod_field hT h 0 _ rfl 1 cellsFInt
    obtain ⟨n1, y1, g1⟩ : ∃ n y, DataW.trod enc Tryz.prog w base spare held n 3 [c1] = some y := trod_field hT h 1 _ rfl 1 cellsFInt
    obtain ⟨n2, y2, g2⟩ : ∃ n y, DataW.trod enc Tryz.prog w base spare held n 3 [c2] = some y := trod_field hT h 2 _ rfl 1 cellsFInt
    obtain ⟨n3, y3, g3⟩ : ∃ n y, DataW.trod enc Tryz.prog w base spare held n 3 [c3] = some y := trod_field hT h 3 _ rfl 1 cellsFInt
    obtain ⟨a0, e0, _, w0⟩ := DataW.trod_int Tryz.underlying3 g0
    obtain ⟨a1, e1, _, w1⟩ := DataW.trod_int Tryz.underlying3 g1
    obtain ⟨a2, e2, _, w2⟩ := DataW.trod_int Tryz.underlying3 g2
    obtain ⟨a3, e3, _, w3⟩ := DataW.trod_int Tryz.underlying3 g3
    simp at e0 e1 e2 e3
    subst e0 e1 e2 e3
    exact ⟨⟨a0, a1, a2, a3⟩, rfl, i64_of_wf w0, i64_of_wf w1, i64_of_wf w2, i64_of_wf w3⟩
set_option maxRecDepth 100000 in
theorem arg_events {r : Reach} {b0 : Nat} {v : Value} {d : DataW H} {p : List MemPlace} (hv : Value.okWide Tryz.prog w r b0 88 v) (h : DataW.Trod enc Tryz.prog w base spare held 88 v d p) :
    ∃ (A : Option Addr) (cap : Nat) (l : List LEv), v = .slice A l.length cap ∧ Reads w w.heap.size 4 A l.length (evcells l) ∧ (∀ y ∈ l, y.Wf) ∧ l.length ≤ cap ∧ cap ≤ maxLen := by
  obtain ⟨a, len, c, rfl⟩ := okWide_slice Tryz.underlying88 hv
  obtain ⟨fuel, hf⟩ := h
  obtain ⟨A, cap, l, e, hr⟩ := open_list LEv.cell LEv.Wf Tryz.underlying88 cellsEv (by decide) (fun _ => rfl) (fun _ _ _ h => open_ev h) hf
  refine ⟨A, cap, l, ?_, hr⟩
  have e' : [Value.slice a len c] = [.slice A l.length cap] := e
  injection e'
end
end Go.Proofs.YthfbjfocmnikaaaGreatDoor
/- leaftop.one, walked: it answers true. Conditions: none. -/
namespace Go.Proofs.YthfbjfocmnikaaaGreatDoor
open Go.RowKit
set_option linter.unusedVariables false
set_option maxRecDepth 100000 in
set_option maxHeartbeats 4000000 in
theorem one_any (w : World) : Calls Tryz.prog 58 #[] w (CheckPost w (.bool true)) := by
  have HE0 : errV 0 = .nilIface := rfl
  have HN := Lib.hid (new_doc w)
  have OK := Lib.hid hi_ok
  have HTX := Lib.hid hi_text
  go_enter Tryz.func58, Tryz.ntmps58
  go_wp2_with fail
  refine HN.out.mono ?_
  rintro e w1 ⟨b1, S1, D1, rfl, hd1, hb1⟩
  have HD1 := Lib.hid hd1
  have HB1 := Lib.hid hb1
  have HI := Lib.hid (insert_any w1 _ _ _ _ _ hd1 LDoc.new_ok 1 0 hiT (by decide) (by decide) (by decide) (by decide))
  unfold hiT at HI
  have HIN : Hid (LDoc.new.insE 1 0 ⟨#[104, 105]⟩ = 0) := hi_ins
  clear hd1 hb1 HN
  go_wp2_with fail
  refine HI.out.mono ?_
  rintro e w2 ⟨V2, c2, zs, rfl, hz1, hz2, hb2⟩
  rw [HIN.out, HE0]
  have HDO := Lib.hid (do_ins HD1.out LDoc.new_ok hz1 hz2 hb2)
  have HDE : Hid (LDoc.new.doE (LDoc.new.insR 1 0 ⟨#[104, 105]⟩) = 0) := hi_do
  have HB2 := Lib.hid (HB1.out.trans (hb2.mono HB1.out.size))
  have HS1 : Hid (∀ g ∈ S1, w.heap.size ≤ g) := fun g hg => (HD1.out.own g hg).1
  clear hz1 hz2 hb2 HI HD1 HB1
  go_wp2_with fail
  refine HDO.out.mono ?_
  rintro e w3 ⟨rfl, S3, D3, hd3, ho3, hs3⟩
  rw [HDE.out, HE0]
  have HB3 := Lib.hid (HB2.out.trans (ho3.below HB2.out.size HS1.out))
  have HT := Lib.hid (text_doc w3 _ _ _ _ _ hd3 OK.out)
  rw [show textOf (LDoc.new.doR (LDoc.new.insR 1 0 ⟨#[104, 105]⟩)).book = hiT from HTX.out] at HT
  unfold hiT at HT
  clear hd3 ho3 hs3 HDO HB2 HS1
  go_wp2_with fail
  refine HT.out.mono ?_
  rintro e w4 ⟨rfl, hb⟩
  have HB4 := Lib.hid (HB3.out.trans (hb.mono HB3.out.size))
  clear hb HT
  go_wp2_with fail
  go_ret
  exact ⟨rfl, HB4.out⟩
end Go.Proofs.YthfbjfocmnikaaaGreatDoor
/- leaftop.TopTogether, walked: nodes that type, strike, cut and join as they like, and a cursor in each; when all have met the cursors stand by the same letters. Conditions: the library's one variable holds what its text lays. -/
namespace Go.Proofs.YthfbjfocmnikaaaGreatDoor
open Go.RowKit
set_option linter.unusedVariables false
namespace lawTopTogether
theorem size_zero {p : ByteArray} (h : p.size = 0) : p = ⟨#[]⟩ := by
  apply ByteArray.ext
  exact Array.eq_empty_of_size_eq_zero h
theorem int_at {A : Option Addr} {l : List Int} {w : World} {B : Nat} (h : Reads w B 1 A l.length (ints l)) {k : Nat} (hk : k < l.length) : ∃ ad, A = some ad ∧ ad.block < B ∧ w.cell? (ad.add k) = some (.int .i64 l[k]) := by
  obtain ⟨ad, u, e, hb, hu, hc⟩ := h.at_ hk
  refine ⟨ad, e, hb, ?_⟩
  unfold ints at hu
  rw [List.getElem?_map, List.getElem?_eq_getElem hk] at hu
  rw [hc, ← hu]
  rfl
/-- A loop over the events, to `m`. -/
def E1 (w : World) (B b n m : Nat) (A1 : Option Addr) (c1 : Nat) (H : List ByteArray) (A2 : Option Addr) (c2 : Nat) (C : List ByteArray) (i : Value) (wr : World) : Prop := ∃ k : Nat, k ≤ m ∧ i = .int .i64 (k : Nat) ∧ Hid (Tog w B b n A1 c1 H A2 c2 C wr)
/-- The loop that sets the cursors. -/
def S1 (w : World) (B b n : Nat) (h l i : Value) (wr : World) : Prop := ∃ (A1 : Option Addr) (c1 : Nat) (H : List ByteArray) (A2 : Option Addr) (c2 : Nat) (C : List ByteArray), H.length ≤ n ∧ Hid (C.length = H.length) ∧ h = .slice A1 H.length c1 ∧ l = .slice A2 H.length c2 ∧ i = .int .i64 (H.length : Nat) ∧ Hid (Tog w B b n A1 c1 H A2 c2 C wr)
set_option maxRecDepth 100000 in
set_option maxHeartbeats 8000000 in
theorem walk (w : World) (n0 : Int) (A : Option Addr) (c : Nat) (l : List LEv) (K : Option Addr) (ck : Nat) (v : List Int) (hglob : Glob w) (h0 : -9223372036854775808 ≤ n0) (h1 : n0 ≤ 9223372036854775807) (hr : Reads w w.heap.size 4 A l.length (evcells l)) (hl : l.length ≤ 9223372036854775807) (hs : ∀ y ∈ l, y.Wf)
    (hv : Reads w w.heap.size 1 K v.length (ints v)) (hnv : v.length ≤ 9223372036854775807) (hvb : ∀ x ∈ v, -9223372036854775808 ≤ x ∧ x ≤ 9223372036854775807) :
    Calls Tryz.prog 8 #[.int .i64 n0, .slice A l.length c, .slice K v.length ck] w (CheckPost w (.bool true)) := by
  have HR := Lib.hid hr
  have HV := Lib.hid hv
  have HVB := Lib.hid hvb
  have HGL := Lib.hid hglob
  have HWF := Lib.hid hs
  have HE0 : errV 0 = .nilIface := rfl
  have HON := Lib.hid (one_any w)
  have HNN := Lib.hid (fun W => nnew_any W n0 h0 h1)
  unfold NNewPost at HNN
  obtain ⟨half, hhalf⟩ : ∃ h, h = l.length / 2 := ⟨_, rfl⟩
  have hhl : half ≤ l.length := by omega
  have HHALF := Lib.hid hhalf
  clear hhalf
  clear hr hglob hs hv hvb
  go_enter Tryz.func8, Tryz.ntmps8
  go_wp2_with fail
  refine HON.out.mono ?_
  rintro e w1 ⟨rfl, hb1⟩
  have HB1 := Lib.hid hb1
  clear hb1 HON
  go_wp2_with fail
  refine (HNN.out w1).mono ?_
  rintro e w7 (⟨⟨hn1, hn4⟩, b, S, rfl, hnet, hb⟩ | ⟨hbad, rfl, hb⟩)
  case inr =>
    have HB7 := Lib.hid (HB1.out.trans (hb.mono HB1.out.size))
    rw [errV_ne (show (1 : Int) ≠ 0 by decide)]
    clear hb HNN
    by_cases hlo : n0 < 1
    · go_wp2_with fail
      go_ret
      exact ⟨rfl, HB7.out⟩
    · have hhi : n0 > 4 := by omega
      go_wp2_with fail
      go_ret
      exact ⟨rfl, HB7.out⟩
  obtain ⟨n, rfl⟩ : ∃ n : Nat, n0 = (n : Int) := ⟨n0.toNat, by omega⟩
  rw [Int.toNat_natCast] at hnet
  have hm1 : 1 ≤ n := by omega
  have hm4 : n ≤ 4 := by omega
  have HS7 := Lib.hid (NSc.make (w := w) HB1.out hm1 hm4 hnet hb)
  have HT7 : Hid (Tog w w1.heap.size b n none 0 [] none 0 [] w7) := ⟨_, _, NHd.of HS7.out, Fair.new hm1 hm4, by simp [LNet.new], HOk.nil _⟩
  obtain ⟨B, hB⟩ : ∃ B, B = w1.heap.size := ⟨_, rfl⟩
  rw [← hB] at HT7
  clear hnet hb HNN hB hn1 hn4 HB1 HS7
  go_upto_block 0 with (fail)
  rw [show ((l.length : Int) / 2) = (half : Int) by have := HHALF.out; omega]
  go_cut [11] (fun _ wx => Hid (Tog w B b n none 0 [] none 0 [] wx))
  case first =>
    go_wp2_with fail
    go_loopw [11] (fun i wr => E1 w B b n 40 none 0 [] none 0 [] i wr) (fun i _ => 40 - (intOf i).toNat)
    case atStart => exact ⟨0, by omega, rfl, HT7⟩
    case round =>
      obtain ⟨k, hk, rfl, HT⟩ := hrel
      have k0 : (0 : Int) ≤ (k : Int) := by omega
      by_cases hkh : k < half
      · have kh : (k : Int) < (half : Int) := by omega
        have hkl : k < l.length := by omega
        have k1 : (k : Int) < (l.length : Int) := by omega
        by_cases hk6 : k < 40
        · have k2 : (k : Int) < 40 := by omega
          obtain ⟨ad, rfl, _, d0, d1, d2, d3⟩ := (HR.out.below HT.out.below).ev hkl
          have hwf := HWF.out _ (List.getElem_mem hkl)
          generalize l[k] = ev at *
          obtain ⟨ke, hdo⟩ := HT.out.do_ ev hwf
          have HDO := Lib.hid hdo
          obtain ⟨ew, ea, eb, ec⟩ := ev
          unfold LEv.cells at HDO
          simp only at d0 d1 d2 d3 HDO
          clear hwf hdo
          go_wp2_with fail
          refine HDO.out.mono ?_
          rintro r w8 ⟨rfl, h8⟩
          have HS8 := Lib.hid h8
          clear h8 d0 d1 d2 d3
          go_wp2_with fail
          go_roundw
          case rel => exact ⟨k + 1, by omega, by go_num, HS8⟩
          case measure => simp [intOf]; omega
        · have k2 : ¬ (k : Int) < 40 := by omega
          go_wp2_with fail
          go_meet
          case rel => exact HT
      · have kh : ¬ (k : Int) < (half : Int) := by omega
        go_wp2_with fail
        go_meet
        case rel => exact HT
  case rest =>
    have HT := hcut
    clear HT7
    go_upto_block 2 with (fail)
    -- SET
    go_cut [12, 13, 14] (fun h g _ wx => ∃ A1 c1 H A2 c2 C, Hid (H.length = n) ∧ Hid (C.length = n) ∧ h = .slice A1 n c1 ∧ g = .slice A2 n c2 ∧ Hid (Tog w B b n A1 c1 H A2 c2 C wx))
    case first =>
      go_wp2_with fail
      go_loopw [12, 13, 14] (fun h g i wr => S1 w B b n h g i wr) (fun _ _ i _ => n - (intOf i).toNat)
      case atStart => exact ⟨none, 0, [], none, 0, [], by simp, Lib.hid rfl, rfl, rfl, rfl, HT⟩
      case round =>
        obtain ⟨A1, c1, H, A2, c2, C, hk, HCH, rfl, rfl, rfl, HT⟩ := hrel
        have k0 : (0 : Int) ≤ (H.length : Int) := by omega
        by_cases hkn : H.length < n
        · have k1 : (H.length : Int) < (n : Int) := by omega
          by_cases hkv : H.length < v.length
          · have k2 : (H.length : Int) < (v.length : Int) := by omega
            obtain ⟨ad, rfl, _, d0⟩ := int_at (HV.out.below HT.out.below) hkv
            obtain ⟨v0, v1⟩ := HVB.out _ (List.getElem_mem hkv)
            generalize v[H.length] = at_ at *
            obtain ⟨N, U, hn, hf, hl3, hh⟩ := HT.out
            obtain ⟨p, S, D, hdoc, hD⟩ := hn.doc (i := H.length) (by omega)
            have HDC := Lib.hid hdoc
            have HDI := Lib.hid hD
            have HN := Lib.hid hn
            have HPT := Lib.hid (hf.part H.length (by omega))
            have HFA := Lib.hid hf
            have HOK := Lib.hid hh
            have HLN := Lib.hid hl3
            clear hdoc hD hn hf hh HT hl3
            go_upto_region 23 with (refine HDC.out.mono ?_; rintro e w8 ⟨rfl, hw8⟩; obtain rfl := hw8.symm)
            have HBK := Lib.hid (book_doc wr _ _ _ _ _ (HDI.out _ (Below.refl _ _)) HPT.out.ok)
            have HSZ := Lib.hid (sized_book HPT.out.ok)
            go_wp2_with fail
            refine HBK.out.mono ?_
            rintro e w9 ⟨V, cv, rfl, hO, hb⟩
            have HAC := Lib.hid (anchor_any w9 V cv _ hO.reads HSZ.out hO.cap_le (by have := hO.cap_max; unfold maxLen at this; omega) (at_) (by omega))
            have HB9 := Lib.hid hb
            have HTX := Lib.hid (fun W (hW : Below wr.heap.size wr W) => text_doc W _ _ _ _ _ (HDI.out W hW) HPT.out.ok)
            have hsml : (textOf (N.doc H.length).book).size ≤ 300 := text_small HPT.out.ok
            have h3 := anch_three HPT.out (at_)
            clear hO hb HBK HSZ
            unfold StrPost at HAC
            rcases h3 with he | ⟨he, hz⟩ | ⟨he, hz, p0, p1, hheld⟩
            · have HV2 := Lib.hid (errV_ne he)
              have hheld : Held (N.doc H.length).ops ⟨#[]⟩ ⟨#[]⟩ := .inl rfl
              clear he
              generalize anchErr (N.doc H.length).book (at_) = ke at *
              generalize anchRes (N.doc H.length).book (at_) = pl at *
              generalize textOf (N.doc H.length).book = tx at *
              go_wp2_with fail
              refine HAC.out.mono ?_
              rintro e w10 ⟨rfl, hb⟩
              rw [HV2.out]
              have HB10 := Lib.hid (HB9.out.trans (hb.mono HB9.out.size))
              clear hb HAC HB9 HV2
              have HT10 := Lib.hid (HTX.out _ HB10.out)
              go_wp2_with fail
              refine HT10.out.mono ?_
              rintro e w11 ⟨rfl, hb⟩
              have HB11 := Lib.hid (HB10.out.trans (hb.mono HB10.out.size))
              have HN11 := Lib.hid (HN.out.step HB11.out)
              clear hb HT10 HTX HB10 HDI HPT HDC
              have F1 := Lib.hid (Fits.of_small (n := H.length + 1) (bytes := 16) (by omega) (by decide))
              have HP := Lib.hid hheld
              have hbs : w.heap.size ≤ (w11.alloc (.cells #[.string (⟨#[]⟩ : ByteArray)] 9)).heap.size := by have := HN11.out.below.size; simp; omega
              have HBS := Lib.hid hbs
              clear hheld hbs
              go_upto_region 31 with (at_builtin; go_loud (refine wpList_app _ (.tmp 108) (.tmp 110) rfl rfl elemStr rfl rfl (HN11.out.own1.alloc _) (Reads.row w11 9 #[.string (⟨#[]⟩ : ByteArray)]) (oneCells_strs [(⟨#[]⟩ : ByteArray)]) F1.out HBS.out ?_; intro A3 c3 w12 hO2 hL2 hX2))
              have HN12 := Lib.hid (HN11.out.push1 ((Below.refl _ _).alloc (Nat.le_refl _) _) hO2 hL2 hX2)
              have HO12 : Hid (Own w12 w.heap.size 9 1 A2 H.length c2 (strs C)) := by have := HN12.out.own2; rwa [HCH.out] at this
              have hbs : w.heap.size ≤ (w12.alloc (.cells #[.string (⟨#[]⟩ : ByteArray)] 9)).heap.size := by have := HN12.out.below.size; simp; omega
              have HBT := Lib.hid hbs
              clear hO2 hL2 hX2 hbs HN11 HBS
              go_wp2_with (at_builtin; go_loud (refine wpList_app _ (.tmp 112) (.tmp 114) rfl rfl elemStr rfl rfl (HO12.out.alloc _) (Reads.row w12 9 #[.string (⟨#[]⟩ : ByteArray)]) (oneCells_strs [(⟨#[]⟩ : ByteArray)]) F1.out HBT.out ?_; intro A4 c4 w13 hO2 hL2 hX2))
              have HN13 := Lib.hid (HN12.out.push2 ((Below.refl _ _).alloc (Nat.le_refl _) _) (by rw [HCH.out]; exact hO2) hL2 hX2)
              clear hO2 hL2 hX2 HN12 HO12
              have e1 := Lib.hid (show (H ++ [(⟨#[]⟩ : ByteArray)]).length = H.length + 1 by simp)
              have e2 := Lib.hid (show (C ++ [(⟨#[]⟩ : ByteArray)]).length = C.length + 1 by simp)
              go_roundw
              case rel => exact ⟨A3, c3, H ++ [(⟨#[]⟩ : ByteArray)], A4, c4, C ++ [(⟨#[]⟩ : ByteArray)], by rw [e1.out]; omega, by show _ = _; rw [e1.out, e2.out, HCH.out], by rw [e1.out], by rw [e1.out], by rw [e1.out]; go_num, ⟨N, U, HN13.out, HFA.out, HLN.out, HOK.out.push HP.out⟩⟩
              case measure => simp [intOf]; omega
            · have hheld : Held (N.doc H.length).ops ⟨#[]⟩ ⟨#[]⟩ := .inl rfl
              rw [he, size_zero hz] at HAC
              clear he hz
              generalize textOf (N.doc H.length).book = tx at *
              go_wp2_with fail
              refine HAC.out.mono ?_
              rintro e w10 ⟨rfl, hb⟩
              rw [HE0]
              have HB10 := Lib.hid (HB9.out.trans (hb.mono HB9.out.size))
              clear hb HAC HB9
              have HT10 := Lib.hid (HTX.out _ HB10.out)
              go_wp2_with fail
              refine HT10.out.mono ?_
              rintro e w11 ⟨rfl, hb⟩
              have HB11 := Lib.hid (HB10.out.trans (hb.mono HB10.out.size))
              have HN11 := Lib.hid (HN.out.step HB11.out)
              clear hb HT10 HTX HB10 HDI HPT HDC
              have F1 := Lib.hid (Fits.of_small (n := H.length + 1) (bytes := 16) (by omega) (by decide))
              have HP := Lib.hid hheld
              have hbs : w.heap.size ≤ (w11.alloc (.cells #[.string (⟨#[]⟩ : ByteArray)] 9)).heap.size := by have := HN11.out.below.size; simp; omega
              have HBS := Lib.hid hbs
              clear hheld hbs
              go_upto_region 31 with (at_builtin; go_loud (refine wpList_app _ (.tmp 108) (.tmp 110) rfl rfl elemStr rfl rfl (HN11.out.own1.alloc _) (Reads.row w11 9 #[.string (⟨#[]⟩ : ByteArray)]) (oneCells_strs [(⟨#[]⟩ : ByteArray)]) F1.out HBS.out ?_; intro A3 c3 w12 hO2 hL2 hX2))
              have HN12 := Lib.hid (HN11.out.push1 ((Below.refl _ _).alloc (Nat.le_refl _) _) hO2 hL2 hX2)
              have HO12 : Hid (Own w12 w.heap.size 9 1 A2 H.length c2 (strs C)) := by have := HN12.out.own2; rwa [HCH.out] at this
              have hbs : w.heap.size ≤ (w12.alloc (.cells #[.string (⟨#[]⟩ : ByteArray)] 9)).heap.size := by have := HN12.out.below.size; simp; omega
              have HBT := Lib.hid hbs
              clear hO2 hL2 hX2 hbs HN11 HBS
              go_wp2_with (at_builtin; go_loud (refine wpList_app _ (.tmp 112) (.tmp 114) rfl rfl elemStr rfl rfl (HO12.out.alloc _) (Reads.row w12 9 #[.string (⟨#[]⟩ : ByteArray)]) (oneCells_strs [(⟨#[]⟩ : ByteArray)]) F1.out HBT.out ?_; intro A4 c4 w13 hO2 hL2 hX2))
              have HN13 := Lib.hid (HN12.out.push2 ((Below.refl _ _).alloc (Nat.le_refl _) _) (by rw [HCH.out]; exact hO2) hL2 hX2)
              clear hO2 hL2 hX2 HN12 HO12
              have e1 := Lib.hid (show (H ++ [(⟨#[]⟩ : ByteArray)]).length = H.length + 1 by simp)
              have e2 := Lib.hid (show (C ++ [(⟨#[]⟩ : ByteArray)]).length = C.length + 1 by simp)
              go_roundw
              case rel => exact ⟨A3, c3, H ++ [(⟨#[]⟩ : ByteArray)], A4, c4, C ++ [(⟨#[]⟩ : ByteArray)], by rw [e1.out]; omega, by show _ = _; rw [e1.out, e2.out, HCH.out], by rw [e1.out], by rw [e1.out], by rw [e1.out]; go_num, ⟨N, U, HN13.out, HFA.out, HLN.out, HOK.out.push HP.out⟩⟩
              case measure => simp [intOf]; omega
            · rw [he] at HAC
              have hne := empty_no hz
              clear he hz
              obtain ⟨a, rfl⟩ : ∃ a : Nat, at_ = (a : Int) := ⟨at_.toNat, by omega⟩
              rw [Int.toNat_natCast] at hheld
              generalize anchRes (N.doc H.length).book ((a : Int)) = pl at *
              generalize textOf (N.doc H.length).book = tx at *
              go_wp2_with fail
              refine HAC.out.mono ?_
              rintro e w10 ⟨rfl, hb⟩
              rw [HE0]
              have HB10 := Lib.hid (HB9.out.trans (hb.mono HB9.out.size))
              clear hb HAC HB9
              have HT10 := Lib.hid (HTX.out _ HB10.out)
              go_wp2_with fail
              refine HT10.out.mono ?_
              rintro e w11 ⟨rfl, hb⟩
              have HB11 := Lib.hid (HB10.out.trans (hb.mono HB10.out.size))
              have HN11 := Lib.hid (HN.out.step HB11.out)
              clear hb HT10 HTX HB10 HDI HPT HDC
              have F1 := Lib.hid (Fits.of_small (n := H.length + 1) (bytes := 16) (by omega) (by decide))
              have HP := Lib.hid hheld
              have hbs : w.heap.size ≤ (w11.alloc (.cells #[.string pl] 9)).heap.size := by have := HN11.out.below.size; simp; omega
              have HBS := Lib.hid hbs
              clear hheld hbs
              go_upto_region 31 with (at_builtin; go_loud (refine wpList_app _ (.tmp 108) (.tmp 110) rfl rfl elemStr rfl rfl (HN11.out.own1.alloc _) (Reads.row w11 9 #[.string pl]) (oneCells_strs [pl]) F1.out HBS.out ?_; intro A3 c3 w12 hO2 hL2 hX2))
              have HN12 := Lib.hid (HN11.out.push1 ((Below.refl _ _).alloc (Nat.le_refl _) _) hO2 hL2 hX2)
              have HO12 : Hid (Own w12 w.heap.size 9 1 A2 H.length c2 (strs C)) := by have := HN12.out.own2; rwa [HCH.out] at this
              have hbs : w.heap.size ≤ (w12.alloc (.cells #[.string (tx.extract a (a + 1))] 9)).heap.size := by have := HN12.out.below.size; simp; omega
              have HBT := Lib.hid hbs
              clear hO2 hL2 hX2 hbs HN11 HBS
              go_wp2_with (at_builtin; go_loud (refine wpList_app _ (.tmp 112) (.tmp 114) rfl rfl elemStr rfl rfl (HO12.out.alloc _) (Reads.row w12 9 #[.string (tx.extract a (a + 1))]) (oneCells_strs [(tx.extract a (a + 1))]) F1.out HBT.out ?_; intro A4 c4 w13 hO2 hL2 hX2))
              have HN13 := Lib.hid (HN12.out.push2 ((Below.refl _ _).alloc (Nat.le_refl _) _) (by rw [HCH.out]; exact hO2) hL2 hX2)
              clear hO2 hL2 hX2 HN12 HO12
              have e1 := Lib.hid (show (H ++ [pl]).length = H.length + 1 by simp)
              have e2 := Lib.hid (show (C ++ [(tx.extract a (a + 1))]).length = C.length + 1 by simp)
              go_roundw
              case rel => exact ⟨A3, c3, H ++ [pl], A4, c4, C ++ [(tx.extract a (a + 1))], by rw [e1.out]; omega, by show _ = _; rw [e1.out, e2.out, HCH.out], by rw [e1.out], by rw [e1.out], by rw [e1.out]; go_num, ⟨N, U, HN13.out, HFA.out, HLN.out, HOK.out.push HP.out⟩⟩
              case measure => simp [intOf]; omega
          · have k2 : ¬ (H.length : Int) < (v.length : Int) := by omega
            obtain ⟨N, U, hn, hf, hl3, hh⟩ := HT.out
            obtain ⟨p, S, D, hdoc, hD⟩ := hn.doc (i := H.length) (by omega)
            have HDC := Lib.hid hdoc
            have HDI := Lib.hid hD
            have HN := Lib.hid hn
            have HPT := Lib.hid (hf.part H.length (by omega))
            have HFA := Lib.hid hf
            have HOK := Lib.hid hh
            have HLN := Lib.hid hl3
            clear hdoc hD hn hf hh HT hl3
            go_upto_region 23 with (refine HDC.out.mono ?_; rintro e w8 ⟨rfl, hw8⟩; obtain rfl := hw8.symm)
            have HBK := Lib.hid (book_doc wr _ _ _ _ _ (HDI.out _ (Below.refl _ _)) HPT.out.ok)
            have HSZ := Lib.hid (sized_book HPT.out.ok)
            go_wp2_with fail
            refine HBK.out.mono ?_
            rintro e w9 ⟨V, cv, rfl, hO, hb⟩
            have HAC := Lib.hid (anchor_any w9 V cv _ hO.reads HSZ.out hO.cap_le (by have := hO.cap_max; unfold maxLen at this; omega) (0) (by omega))
            have HB9 := Lib.hid hb
            have HTX := Lib.hid (fun W (hW : Below wr.heap.size wr W) => text_doc W _ _ _ _ _ (HDI.out W hW) HPT.out.ok)
            have hsml : (textOf (N.doc H.length).book).size ≤ 300 := text_small HPT.out.ok
            have h3 := anch_three HPT.out (0)
            clear hO hb HBK HSZ
            unfold StrPost at HAC
            rcases h3 with he | ⟨he, hz⟩ | ⟨he, hz, p0, p1, hheld⟩
            · have HV2 := Lib.hid (errV_ne he)
              have hheld : Held (N.doc H.length).ops ⟨#[]⟩ ⟨#[]⟩ := .inl rfl
              clear he
              generalize anchErr (N.doc H.length).book (0) = ke at *
              generalize anchRes (N.doc H.length).book (0) = pl at *
              generalize textOf (N.doc H.length).book = tx at *
              go_wp2_with fail
              refine HAC.out.mono ?_
              rintro e w10 ⟨rfl, hb⟩
              rw [HV2.out]
              have HB10 := Lib.hid (HB9.out.trans (hb.mono HB9.out.size))
              clear hb HAC HB9 HV2
              have HT10 := Lib.hid (HTX.out _ HB10.out)
              go_wp2_with fail
              refine HT10.out.mono ?_
              rintro e w11 ⟨rfl, hb⟩
              have HB11 := Lib.hid (HB10.out.trans (hb.mono HB10.out.size))
              have HN11 := Lib.hid (HN.out.step HB11.out)
              clear hb HT10 HTX HB10 HDI HPT HDC
              have F1 := Lib.hid (Fits.of_small (n := H.length + 1) (bytes := 16) (by omega) (by decide))
              have HP := Lib.hid hheld
              have hbs : w.heap.size ≤ (w11.alloc (.cells #[.string (⟨#[]⟩ : ByteArray)] 9)).heap.size := by have := HN11.out.below.size; simp; omega
              have HBS := Lib.hid hbs
              clear hheld hbs
              go_upto_region 31 with (at_builtin; go_loud (refine wpList_app _ (.tmp 108) (.tmp 110) rfl rfl elemStr rfl rfl (HN11.out.own1.alloc _) (Reads.row w11 9 #[.string (⟨#[]⟩ : ByteArray)]) (oneCells_strs [(⟨#[]⟩ : ByteArray)]) F1.out HBS.out ?_; intro A3 c3 w12 hO2 hL2 hX2))
              have HN12 := Lib.hid (HN11.out.push1 ((Below.refl _ _).alloc (Nat.le_refl _) _) hO2 hL2 hX2)
              have HO12 : Hid (Own w12 w.heap.size 9 1 A2 H.length c2 (strs C)) := by have := HN12.out.own2; rwa [HCH.out] at this
              have hbs : w.heap.size ≤ (w12.alloc (.cells #[.string (⟨#[]⟩ : ByteArray)] 9)).heap.size := by have := HN12.out.below.size; simp; omega
              have HBT := Lib.hid hbs
              clear hO2 hL2 hX2 hbs HN11 HBS
              go_wp2_with (at_builtin; go_loud (refine wpList_app _ (.tmp 112) (.tmp 114) rfl rfl elemStr rfl rfl (HO12.out.alloc _) (Reads.row w12 9 #[.string (⟨#[]⟩ : ByteArray)]) (oneCells_strs [(⟨#[]⟩ : ByteArray)]) F1.out HBT.out ?_; intro A4 c4 w13 hO2 hL2 hX2))
              have HN13 := Lib.hid (HN12.out.push2 ((Below.refl _ _).alloc (Nat.le_refl _) _) (by rw [HCH.out]; exact hO2) hL2 hX2)
              clear hO2 hL2 hX2 HN12 HO12
              have e1 := Lib.hid (show (H ++ [(⟨#[]⟩ : ByteArray)]).length = H.length + 1 by simp)
              have e2 := Lib.hid (show (C ++ [(⟨#[]⟩ : ByteArray)]).length = C.length + 1 by simp)
              go_roundw
              case rel => exact ⟨A3, c3, H ++ [(⟨#[]⟩ : ByteArray)], A4, c4, C ++ [(⟨#[]⟩ : ByteArray)], by rw [e1.out]; omega, by show _ = _; rw [e1.out, e2.out, HCH.out], by rw [e1.out], by rw [e1.out], by rw [e1.out]; go_num, ⟨N, U, HN13.out, HFA.out, HLN.out, HOK.out.push HP.out⟩⟩
              case measure => simp [intOf]; omega
            · have hheld : Held (N.doc H.length).ops ⟨#[]⟩ ⟨#[]⟩ := .inl rfl
              rw [he, size_zero hz] at HAC
              clear he hz
              generalize textOf (N.doc H.length).book = tx at *
              go_wp2_with fail
              refine HAC.out.mono ?_
              rintro e w10 ⟨rfl, hb⟩
              rw [HE0]
              have HB10 := Lib.hid (HB9.out.trans (hb.mono HB9.out.size))
              clear hb HAC HB9
              have HT10 := Lib.hid (HTX.out _ HB10.out)
              go_wp2_with fail
              refine HT10.out.mono ?_
              rintro e w11 ⟨rfl, hb⟩
              have HB11 := Lib.hid (HB10.out.trans (hb.mono HB10.out.size))
              have HN11 := Lib.hid (HN.out.step HB11.out)
              clear hb HT10 HTX HB10 HDI HPT HDC
              have F1 := Lib.hid (Fits.of_small (n := H.length + 1) (bytes := 16) (by omega) (by decide))
              have HP := Lib.hid hheld
              have hbs : w.heap.size ≤ (w11.alloc (.cells #[.string (⟨#[]⟩ : ByteArray)] 9)).heap.size := by have := HN11.out.below.size; simp; omega
              have HBS := Lib.hid hbs
              clear hheld hbs
              go_upto_region 31 with (at_builtin; go_loud (refine wpList_app _ (.tmp 108) (.tmp 110) rfl rfl elemStr rfl rfl (HN11.out.own1.alloc _) (Reads.row w11 9 #[.string (⟨#[]⟩ : ByteArray)]) (oneCells_strs [(⟨#[]⟩ : ByteArray)]) F1.out HBS.out ?_; intro A3 c3 w12 hO2 hL2 hX2))
              have HN12 := Lib.hid (HN11.out.push1 ((Below.refl _ _).alloc (Nat.le_refl _) _) hO2 hL2 hX2)
              have HO12 : Hid (Own w12 w.heap.size 9 1 A2 H.length c2 (strs C)) := by have := HN12.out.own2; rwa [HCH.out] at this
              have hbs : w.heap.size ≤ (w12.alloc (.cells #[.string (⟨#[]⟩ : ByteArray)] 9)).heap.size := by have := HN12.out.below.size; simp; omega
              have HBT := Lib.hid hbs
              clear hO2 hL2 hX2 hbs HN11 HBS
              go_wp2_with (at_builtin; go_loud (refine wpList_app _ (.tmp 112) (.tmp 114) rfl rfl elemStr rfl rfl (HO12.out.alloc _) (Reads.row w12 9 #[.string (⟨#[]⟩ : ByteArray)]) (oneCells_strs [(⟨#[]⟩ : ByteArray)]) F1.out HBT.out ?_; intro A4 c4 w13 hO2 hL2 hX2))
              have HN13 := Lib.hid (HN12.out.push2 ((Below.refl _ _).alloc (Nat.le_refl _) _) (by rw [HCH.out]; exact hO2) hL2 hX2)
              clear hO2 hL2 hX2 HN12 HO12
              have e1 := Lib.hid (show (H ++ [(⟨#[]⟩ : ByteArray)]).length = H.length + 1 by simp)
              have e2 := Lib.hid (show (C ++ [(⟨#[]⟩ : ByteArray)]).length = C.length + 1 by simp)
              go_roundw
              case rel => exact ⟨A3, c3, H ++ [(⟨#[]⟩ : ByteArray)], A4, c4, C ++ [(⟨#[]⟩ : ByteArray)], by rw [e1.out]; omega, by show _ = _; rw [e1.out, e2.out, HCH.out], by rw [e1.out], by rw [e1.out], by rw [e1.out]; go_num, ⟨N, U, HN13.out, HFA.out, HLN.out, HOK.out.push HP.out⟩⟩
              case measure => simp [intOf]; omega
            · rw [he] at HAC
              have hne := empty_no hz
              clear he hz
              rw [show (0 : Int).toNat = 0 from rfl] at hheld
              generalize anchRes (N.doc H.length).book (0) = pl at *
              generalize textOf (N.doc H.length).book = tx at *
              go_wp2_with fail
              refine HAC.out.mono ?_
              rintro e w10 ⟨rfl, hb⟩
              rw [HE0]
              have HB10 := Lib.hid (HB9.out.trans (hb.mono HB9.out.size))
              clear hb HAC HB9
              have HT10 := Lib.hid (HTX.out _ HB10.out)
              go_wp2_with fail
              refine HT10.out.mono ?_
              rintro e w11 ⟨rfl, hb⟩
              have HB11 := Lib.hid (HB10.out.trans (hb.mono HB10.out.size))
              have HN11 := Lib.hid (HN.out.step HB11.out)
              clear hb HT10 HTX HB10 HDI HPT HDC
              have F1 := Lib.hid (Fits.of_small (n := H.length + 1) (bytes := 16) (by omega) (by decide))
              have HP := Lib.hid hheld
              have hbs : w.heap.size ≤ (w11.alloc (.cells #[.string pl] 9)).heap.size := by have := HN11.out.below.size; simp; omega
              have HBS := Lib.hid hbs
              clear hheld hbs
              go_upto_region 31 with (at_builtin; go_loud (refine wpList_app _ (.tmp 108) (.tmp 110) rfl rfl elemStr rfl rfl (HN11.out.own1.alloc _) (Reads.row w11 9 #[.string pl]) (oneCells_strs [pl]) F1.out HBS.out ?_; intro A3 c3 w12 hO2 hL2 hX2))
              have HN12 := Lib.hid (HN11.out.push1 ((Below.refl _ _).alloc (Nat.le_refl _) _) hO2 hL2 hX2)
              have HO12 : Hid (Own w12 w.heap.size 9 1 A2 H.length c2 (strs C)) := by have := HN12.out.own2; rwa [HCH.out] at this
              have hbs : w.heap.size ≤ (w12.alloc (.cells #[.string (tx.extract 0 (0 + 1))] 9)).heap.size := by have := HN12.out.below.size; simp; omega
              have HBT := Lib.hid hbs
              clear hO2 hL2 hX2 hbs HN11 HBS
              go_wp2_with (at_builtin; go_loud (refine wpList_app _ (.tmp 112) (.tmp 114) rfl rfl elemStr rfl rfl (HO12.out.alloc _) (Reads.row w12 9 #[.string (tx.extract 0 (0 + 1))]) (oneCells_strs [(tx.extract 0 (0 + 1))]) F1.out HBT.out ?_; intro A4 c4 w13 hO2 hL2 hX2))
              have HN13 := Lib.hid (HN12.out.push2 ((Below.refl _ _).alloc (Nat.le_refl _) _) (by rw [HCH.out]; exact hO2) hL2 hX2)
              clear hO2 hL2 hX2 HN12 HO12
              have e1 := Lib.hid (show (H ++ [pl]).length = H.length + 1 by simp)
              have e2 := Lib.hid (show (C ++ [(tx.extract 0 (0 + 1))]).length = C.length + 1 by simp)
              go_roundw
              case rel => exact ⟨A3, c3, H ++ [pl], A4, c4, C ++ [(tx.extract 0 (0 + 1))], by rw [e1.out]; omega, by show _ = _; rw [e1.out, e2.out, HCH.out], by rw [e1.out], by rw [e1.out], by rw [e1.out]; go_num, ⟨N, U, HN13.out, HFA.out, HLN.out, HOK.out.push HP.out⟩⟩
              case measure => simp [intOf]; omega
        · have k1 : ¬ (H.length : Int) < (n : Int) := by omega
          go_wp2_with fail
          go_meet
          case rel =>
            have hnH : n = H.length := by omega
            exact ⟨A1, c1, H, A2, c2, C, hnH.symm, by show _ = _; rw [HCH.out, hnH], by rw [hnH], by rw [hnH], HT⟩
    case rest =>
      obtain ⟨A1, c1, H, A2, c2, C, HH, HCH, rfl, rfl, HT⟩ := hcut
      -- END
      have HTE := Lib.hid HT
      clear HT
      have HT := HTE
      clear HTE HV HVB
      go_upto_block 4 with (fail)
      go_cut [21] (fun _ wx => Hid (Tog w B b n A1 c1 H A2 c2 C wx))
      case first =>
        go_wp2_with fail
        go_loopw [21] (fun i wr => E1 w B b n l.length A1 c1 H A2 c2 C i wr) (fun i _ => 80 - (intOf i).toNat)
        case atStart => exact ⟨half, hhl, rfl, HT⟩
        case round =>
          obtain ⟨k, hk, rfl, HT⟩ := hrel
          have k0 : (0 : Int) ≤ (k : Int) := by omega
          by_cases hkl : k < l.length
          · have k1 : (k : Int) < (l.length : Int) := by omega
            by_cases hk6 : k < 80
            · have k2 : (k : Int) < 80 := by omega
              obtain ⟨ad, rfl, _, d0, d1, d2, d3⟩ := (HR.out.below HT.out.below).ev hkl
              have hwf := HWF.out _ (List.getElem_mem hkl)
              generalize l[k] = ev at *
              obtain ⟨ke, hdo⟩ := HT.out.do_ ev hwf
              have HDO := Lib.hid hdo
              obtain ⟨ew, ea, eb, ec⟩ := ev
              unfold LEv.cells at HDO
              simp only at d0 d1 d2 d3 HDO
              clear hwf hdo
              go_wp2_with fail
              refine HDO.out.mono ?_
              rintro r w8 ⟨rfl, h8⟩
              have HS8 := Lib.hid h8
              clear h8 d0 d1 d2 d3
              go_wp2_with fail
              go_roundw
              case rel => exact ⟨k + 1, by omega, by go_num, HS8⟩
              case measure => simp [intOf]; omega
            · have k2 : ¬ (k : Int) < 80 := by omega
              go_wp2_with fail
              go_meet
              case rel => exact HT
          · have k1 : ¬ (k : Int) < (l.length : Int) := by omega
            go_wp2_with fail
            go_meet
            case rel => exact HT
      case rest =>
        have HT := hcut
        clear hcut HR HWF
        obtain ⟨uk, huk, hway⟩ := HT.out.way
        have HW0 := Lib.hid hway
        clear hway HT
        go_upto_block 6 with (fail)
        go_cut [] (fun wx => Hid (Tog.Way w B b n A1 c1 H A2 c2 C 0 wx))
        case first =>
          go_wp2_with fail
          go_loopg [] uk (fun k wr => ∃ j, j = k ∧ Hid (Tog.Way w B b n A1 c1 H A2 c2 C j wr))
          case atStart => exact ⟨uk, rfl, HW0⟩
          case round =>
            obtain ⟨j, hjk, HW1⟩ := hrel
            have HJK := Lib.hid hjk
            have HUN := Lib.hid HW1.out.under
            have hul := HW1.out.lt
            clear hjk
            rcases j with _ | j
            · clear HJK
              go_wp2_with fail
              refine HUN.out.mono ?_
              rintro r w8 ⟨rfl, hw8⟩
              obtain rfl := hw8.symm
              go_wp2_with fail
              go_meet
              case rel => exact HW1
            · have g1 : ((j + 1 : Nat) : Int) > 0 := by omega
              obtain ⟨ke, hdo⟩ := HW1.out.first
              have HDO := Lib.hid hdo
              clear hdo
              go_wp2_with fail
              refine HUN.out.mono ?_
              rintro r w8 ⟨rfl, hw8⟩
              obtain rfl := hw8.symm
              go_wp2_with fail
              refine HDO.out.mono ?_
              rintro r w9 ⟨rfl, h9⟩
              have HW9 := Lib.hid h9
              clear h9
              go_wp2_with fail
              go_roundg j
              case measure => have := HJK.out; omega
              case rel => exact ⟨j, rfl, HW9⟩
        case rest =>
          have HW := hcut
          clear hcut HW0
          go_upto_block 8 with (fail)
          go_cut [22] (fun _ wx => Hid (Tog.Way w B b n A1 c1 H A2 c2 C 0 wx))
          case first =>
            go_wp2_with fail
            go_loopw [22] (fun r wr => ∃ k : Nat, k ≤ 2 ∧ r = .int .i64 (k : Nat) ∧ Hid (Tog.Way w B b n A1 c1 H A2 c2 C 0 wr)) (fun r _ => 2 - (intOf r).toNat)
            case atStart => exact ⟨0, by omega, rfl, HW⟩
            case round =>
              obtain ⟨r, hr, rfl, HW1⟩ := hrel
              have r0 : (0 : Int) ≤ (r : Int) := by omega
              by_cases hr2 : r < 2
              · have r1 : (r : Int) < 2 := by omega
                go_upto_block 9 with (fail)
                go_cut [23] (fun _ wx => Hid (Tog.Way w B b n A1 c1 H A2 c2 C 0 wx))
                case first =>
                  go_wp2_with fail
                  go_loopw [23] (fun i wr => ∃ k : Nat, k ≤ n ∧ i = .int .i64 (k : Nat) ∧ Hid (Tog.Way w B b n A1 c1 H A2 c2 C 0 wr)) (fun i _ => n - (intOf i).toNat)
                  case atStart => exact ⟨0, by omega, rfl, HW1⟩
                  case round =>
                    obtain ⟨i, hi, rfl, HW2⟩ := hrel
                    have i0 : (0 : Int) ≤ (i : Int) := by omega
                    by_cases hin : i < n
                    · have i1 : (i : Int) < (n : Int) := by omega
                      go_upto_block 11 with (fail)
                      go_cut [24] (fun _ wx => Hid (Tog.Way w B b n A1 c1 H A2 c2 C 0 wx))
                      case first =>
                        go_wp2_with fail
                        go_loopw [24] (fun i wr => ∃ k : Nat, k ≤ n ∧ i = .int .i64 (k : Nat) ∧ Hid (Tog.Way w B b n A1 c1 H A2 c2 C 0 wr)) (fun i _ => n - (intOf i).toNat)
                        case atStart => exact ⟨0, by omega, rfl, HW2⟩
                        case round =>
                          obtain ⟨j, hj, rfl, HW3⟩ := hrel
                          have j0 : (0 : Int) ≤ (j : Int) := by omega
                          by_cases hjn : j < n
                          · have j1 : (j : Int) < (n : Int) := by omega
                            by_cases hij : i = j
                            · have g2 : ((i : Int) == (j : Int)) = true := by simp [hij]
                              clear hij
                              go_wp2_with fail
                              go_roundw
                              case rel => exact ⟨j + 1, by omega, by go_num, HW3⟩
                              case measure => simp [intOf]; omega
                            · have g2 : ((i : Int) == (j : Int)) = false := by simp; omega
                              obtain ⟨ke, hke, hcal⟩ := HW3.out.mesh hin hjn hij hm4
                              have HKE := Lib.hid hke
                              have HCA := Lib.hid hcal
                              clear hij hke hcal
                              go_wp2_with fail
                              refine HCA.out.mono ?_
                              rintro e w8 ⟨rfl, hd⟩
                              have HD := Lib.hid hd.out.2
                              clear hd HCA
                              go_wp2_with fail
                              refine HD.out.mono ?_
                              rintro e w9 ⟨rfl, hm9⟩
                              have HW9 := Lib.hid hm9
                              have HB9 : Hid (Below w.heap.size w w9) := Tog.Way.below hm9
                              clear hm9 HD
                              rcases HKE.out with hk | hk
                              · subst hk
                                rw [HE0]
                                go_wp2_with fail
                                go_roundw
                                case rel => exact ⟨j + 1, by omega, by go_num, HW9⟩
                                case measure => simp [intOf]; omega
                              · subst hk
                                have HR1 := Lib.hid (error_any w9 4 4 (HGL.out.below HB9.out (Nat.le_refl _)))
                                rw [show ((4 : Int) == 4) = true from rfl] at HR1
                                rw [errV_ne (show (4 : Int) ≠ 0 by decide)] at HR1 ⊢
                                go_wp2_with fail
                                refine HR1.out.mono ?_
                                rintro e w10 ⟨rfl, hb⟩
                                have HB10 := Lib.hid (HB9.out.trans (hb.mono HB9.out.size))
                                clear hb
                                go_wp2_with fail
                                go_ret
                                exact ⟨rfl, HB10.out⟩
                          · have j1 : ¬ (j : Int) < (n : Int) := by omega
                            go_wp2_with fail
                            go_meet
                            case rel => exact HW3
                      case rest =>
                        have HW3 := hcut
                        clear hcut
                        go_wp2_with fail
                        go_roundw
                        case rel => exact ⟨i + 1, by omega, by go_num, HW3⟩
                        case measure => simp [intOf]; omega
                    · have i1 : ¬ (i : Int) < (n : Int) := by omega
                      go_wp2_with fail
                      go_meet
                      case rel => exact HW2
                case rest =>
                  have HW2 := hcut
                  clear hcut
                  go_wp2_with fail
                  go_roundw
                  case rel => exact ⟨r + 1, by omega, by go_num, HW2⟩
                  case measure => simp [intOf]; omega
              · have r1 : ¬ (r : Int) < 2 := by omega
                go_wp2_with fail
                go_meet
                case rel => exact HW1
          case rest =>
            rename_i hK
            exact hK _ _ (tail w wc B b n A1 c1 H A2 c2 C hcut.out HH.out HCH.out hm4)
end lawTopTogether
end Go.Proofs.YthfbjfocmnikaaaGreatDoor
/- From a walk to a given statement: one theorem that serves every law of the seat. Conditions: none of our own. -/
namespace Go.Proofs.YthfbjfocmnikaaaGreatDoor
open Go.RowKit Go.WideShapes Go.ChangeShapes Go.ChangeAt
set_option linter.unusedVariables false

section
variable {H : Type} {enc : TypeId × Value → H} {P : Program}

theorem post_of_below {f : Func} {s : ChangeSpec} {apart fresh handsOn again : Bool} {W W' : World} {args : Array Value} {v : Value} {ds gs : List (DataW H)} {before pa pv : List MemPlace}
    (hW : DataW.Whole enc P f.params.toList s.vars apart W args.toList ds gs before)
    (hres : ∀ (b : Nat) (sp : Nat → Bool) (hd : Bool), DataW.TrodAll enc P W' b sp hd f.resultTypes.toList (v.resultList f.resultTypes.size) (s.fn H (ds ++ gs)).results [])
    (hargs : ∀ sp : Nat → Bool, (∀ p ∈ before, sp p.block = true) → DataW.TrodAll enc P W' 0 sp true f.params.toList args.toList (s.fn H (ds ++ gs)).args pa)
    (hvars : ∀ sp : Nat → Bool, (∀ p ∈ before, sp p.block = true) → DataW.TrodVars enc P W' sp s.vars (s.fn H (ds ++ gs)).vars pv)
    (hps : before = pa ++ pv) (hb : Below W.heap.size W W')
    (hok : ∀ (j : Nat) (t : TypeId) (r : Value), f.resultTypes[j]? = some t → (v.resultList f.resultTypes.size)[j]? = some r → Value.okWide P W' .any 0 t r) :
    s.post enc P f apart fresh handsOn again W args v W' := by
  have hlt : ∀ p ∈ before, p.block < W.heap.size := fun p hp => hW.lt p hp
  have hold : ∀ p ∈ before, (fun b => decide (b < W.heap.size)) p.block = true := fun p hp => by simpa using hlt p hp
  refine ⟨ds, gs, before, [], pa, pv, hW, hres _ _ _, hargs _ hold, hvars _ hold, World.keptBut_mono (fun p hp => ⟨hp, ?_⟩) (hb.frame (· ∈ before)), fun _ => ?_⟩
  · rw [hps, List.mem_append] at hp
    exact Or.inr hp
  · obtain ⟨_, _, _, _, _, hz, hn⟩ := hW
    refine ⟨hok, _, _, ([] ++ pa) ++ pv, ⟨[] ++ pa, pv, trodAll_append (hargs _ (fun _ _ => rfl)) (hres _ _ _), hvars _ (fun _ _ => rfl), rfl, ?_, ?_⟩, ?_⟩
    · intro b off hp
      have hin : MemPlace.cell b off ∈ before := by rw [hps]; simpa using hp
      rw [hb.frozen (hlt _ hin)]
      exact hz b off hin
    · intro ha
      have := hn ha
      rw [hps] at this
      simpa using this
    · intro p hp _
      rw [hps]
      simpa using hp

theorem trodAll_below (hl : laidOutB P = true) {W W' : World} (hb : Below W.heap.size W W') {sp : Nat → Bool} :
    ∀ (ts : List TypeId) (vs : List Value) (ds : List (DataW H)) (ps : List MemPlace), (∀ t ∈ ts, P.readableRec t = true ∧ t < P.types.size) → (∀ p ∈ ps, p.block < W.heap.size) → (∀ p ∈ ps, sp p.block = true) →
      DataW.TrodAll enc P W 0 (fun _ => true) true ts vs ds ps → DataW.TrodAll enc P W' 0 sp true ts vs ds ps := by
  intro ts
  induction ts with
  | nil => intro vs ds ps _ _ _ h; cases vs <;> cases ds <;> simp_all [DataW.TrodAll]
  | cons t ts ih =>
    intro vs ds ps ht hlt hs h
    cases vs with
    | nil => simp [DataW.TrodAll] at h
    | cons v vs =>
      cases ds with
      | nil => simp [DataW.TrodAll] at h
      | cons d ds =>
        obtain ⟨p, q, h1, h2, rfl⟩ := h
        exact ⟨p, q, WideElems.Trod_stays hl (ht t (by simp)).1 (ht t (by simp)).2 h1 (fun x hx => hb.same (hlt x (by simp [hx]))) (fun x hx => hs x (by simp [hx])),
          ih vs ds q (fun t' h' => ht t' (by simp [h'])) (fun x hx => hlt x (by simp [hx])) (fun x hx => hs x (by simp [hx])) h2, rfl⟩

/-- A law: it answered true, and nothing that was there has turned. -/
theorem law_post (hl : laidOutB P = true) {f : Func} {s : ChangeSpec} {apart fresh handsOn again : Bool} {tb : TypeId} {W W' : World} {args : Array Value} {ds gs : List (DataW H)} {before : List MemPlace}
    (hr : f.resultTypes = #[tb]) (htb : P.underlying tb = some .bool) (hp : ∀ t ∈ f.params.toList, P.readableRec t = true ∧ t < P.types.size) (hv : s.vars = [])
    (hfn : s.fn H ds = { results := [.lit (.bool true)], args := ds })
    (hW : DataW.Whole enc P f.params.toList s.vars apart W args.toList ds gs before) (hb : Below W.heap.size W W') :
    s.post enc P f apart fresh handsOn again W args (.bool true) W' := by
  have hW' := hW
  obtain ⟨p, q, hA, hV, hpq, hfz, hnd⟩ := hW
  have hlt : ∀ x ∈ before, x.block < W.heap.size := fun x hx => hW'.lt x hx
  rw [hv] at hV
  obtain ⟨hgs, hq⟩ := trodVars_none hV
  subst hgs; subst hq
  simp only [List.append_nil] at hpq
  subst hpq
  refine post_of_below (pa := before) (pv := []) hW' ?_ ?_ ?_ (by simp) hb ?_
  · intro b sp hd
    rw [List.append_nil, hfn, hr]
    exact trodAll_mk1 (shut_bool htb _)
  · intro sp hs
    rw [List.append_nil, hfn]
    exact trodAll_below hl hb _ _ _ _ hp hlt hs hA
  · intro sp hs
    rw [List.append_nil, hfn, hv]
    exact rfl
  · exact ok_one hr rfl (okWide_bool_mk htb _)
end

theorem Tryz.own : ownKnob Tryz.prog.godebug = none := by kernel_rfl
theorem Tryz.laidOut : laidOutB Tryz.prog = true := by kernel_rfl
end Go.Proofs.YthfbjfocmnikaaaGreatDoor
/- From a walk to a tied card: what serves every law of a seat whose rows list the library's one variable. Conditions: none of our own. (After the guide's worked toy on errors.As.) -/
namespace Go.Proofs.YthfbjfocmnikaaaGreatDoor
open Go.ChangeShapes Go.WideShapes Go.RowKit
set_option linter.unusedVariables false
namespace Card

/-- What the rows list. -/
def laid : List (String × DataW Unit) := [("errors.errorType", Rows.laid_errors_errorType)]
theorem et : Tryz.prog.globalNamed "errors.errorType" = some 0 := by kernel_rfl
theorem rt : (Tryz.prog.cutTypes.find? (·.1 == "internal/reflectlite.rtype")).map (·.2) = some 300 := by kernel_rfl
theorem oneRow : ((List.range Tryz.prog.types.size).filter fun t => Tryz.prog.rowNamed t [101, 114, 114, 111, 114]) = [32] := by kernel_rfl
theorem handle : typeHandle Tryz.prog 32 = .pointer (some ⟨2, 32, none⟩) := by kernel_rfl
/-- What the condition gives a walk: the variable's one cell. -/
theorem glob_of_laid {W : World} (h : laidMetH Tryz.prog laid W) : Glob W := by
  have h' : laidMet Tryz.prog [] W ∧ handlesMet Tryz.prog laid W := h
  obtain ⟨name, u, ty, e1, e2, e3, e4, e5⟩ := h'.2 _ (List.mem_singleton.2 rfl)
  have en : name = [101, 114, 114, 111, 114] := (Option.some.inj e1).symm
  subst en
  obtain rfl := Option.some.inj (rt.symm.trans e2)
  have hm : ty ∈ (List.range Tryz.prog.types.size).filter fun t => Tryz.prog.rowNamed t [101, 114, 114, 111, 114] := List.mem_filter.2 ⟨List.mem_range.2 e3, e4⟩
  rw [oneRow] at hm
  obtain rfl := List.mem_singleton.1 hm
  rw [handle] at e5
  unfold Glob
  simpa using World.var?_cell et e5 0
/-- A world that meets the condition: the settled one, the variable's cell laid. -/
noncomputable def laidWorld (os : Os) : World :=
  let w0 := World.holding Tryz.prog os ⟨#[], #[], []⟩
  { w0 with heap := w0.heap.modify 0 fun
      | .cells _ t frozen => .cells #[.iface 300 (.agg #[.pointer (some ⟨2, 32, none⟩)])] t frozen
      | o => o }
theorem laidWorld_met (os : Os) (args : Array Value) : laidMetH Tryz.prog laid ((laidWorld os).forCall (fun _ _ => 0) ⟨#[], args, []⟩).memory :=
  laidMetH_of_parts (laidMet_nil _ _) (by kernel_rfl)
end Card
end Go.Proofs.YthfbjfocmnikaaaGreatDoor
/- leaftop.TopTogether, proved: nodes that type, strike, cut and join as they like, and a cursor in each; when all have met the cursors stand by the same letters, or where these were. Conditions: the library's one variable holds what its text lays (the card ties it). -/
namespace Go.Proofs.YthfbjfocmnikaaaGreatDoor
open Go.RowKit Go.WideShapes Go.ChangeShapes Go.ChangeAt
set_option linter.unusedVariables false
namespace lawTopTogether
set_option maxRecDepth 100000 in
theorem lifted (os : Os) (started : os.Started) (H : Type) (enc : TypeId × Value → H) :
    ReturnsInHanded {} Tryz.checked os 8 .any (fun w args => (Rows.topTogetherSpec.pre enc Tryz.prog Tryz.f8 [] false w args ∧ laidMetH Tryz.prog Card.laid w) ∧ sizedMet enc Tryz.prog Tryz.f8 (OpenSpec.ofChange Rows.topTogetherSpec) false w args)
      (Rows.topTogetherSpec.post enc Tryz.prog Tryz.f8 false true false false) := by
  refine returnsInHanded_of_change_and (C := Tryz.checked) (X := fun w _ => laidMetH Tryz.prog Card.laid w) (fun _ _ _ hh h => h.of_heap hh) Tryz.own started (by kernel_rfl) Tryz.func8
    (ChangeSpec.witness_at (enc := enc) (C := Tryz.checked) (os := os) (X := fun w _ => laidMetH Tryz.prog Card.laid w) false (Card.laidWorld os) #[.int .i64 0, .slice none 0 0, .slice none 0 0] 8 rfl (by kernel_rfl) (by kernel_rfl) (by kernel_rfl) (by kernel_rfl) (by kernel_rfl) (Card.laidWorld_met os _)) ?_
  intro W base args ds gs before hval0 hW _ hsz0 hL _
  have hval : ∀ (j : Nat) t v, Tryz.f8.params[j]? = some t → args[j]? = some v → Value.okWide Tryz.prog W .any base t v := hval0
  obtain ⟨p, q, hA0, _⟩ := id hW
  have hA : DataW.TrodAll enc Tryz.prog W 0 (fun _ => true) true Tryz.f8.params.toList args.toList ds p := hA0
  have hsz : (DataW.weightsEach Tryz.prog (Tryz.f8.params.toList ++ Rows.topTogetherSpec.plain.varTypes Tryz.prog) (ds ++ gs)).all (· ≤ reachBytes) = true := hsz0
  rw [Tryz.params8] at hA hval hsz
  obtain ⟨v0, v1, v2, d0, d1, d2, p0, p1, p2, rfl, rfl, rfl, h0, h1, h2⟩ := trodAll_three hA
  obtain ⟨a0, rfl, rfl, rfl, wa0⟩ := open_int Tryz.underlying3 (hval 0 3 v0 rfl rfl) h0
  obtain ⟨A1, c1, l1, rfl, r1, g1, lc1, cm1⟩ := arg_events (hval 1 88 v1 rfl rfl) h1
  obtain ⟨A2, c2, l2, rfl, r2, g2, lc2, cm2⟩ := arg_ints (hval 2 23 v2 rfl rfl) h2
  refine (walk W a0 A1 c1 l1 A2 c2 l2 (Card.glob_of_laid hL) (i64_of_wf wa0).1 (i64_of_wf wa0).2 r1 (by unfold maxLen at cm1; omega) g1 r2 (by unfold maxLen at cm2; omega) (fun x hx => g2 x hx)).mono fun e W' ⟨he, hb⟩ => ⟨_, he, ?_⟩
  exact law_post Tryz.laidOut (tb := 4) (by kernel_rfl) Tryz.underlying4 (by rw [Tryz.params8]; simp only [List.mem_cons, List.not_mem_nil, or_false]; rintro t (rfl | rfl | rfl) <;> exact ⟨by kernel_rfl, of_decide_eq_true (by kernel_rfl)⟩) rfl rfl hW hb

theorem holds : Rows.TopTogetherSaid :=
  OpenClaim.holds_of_wide 8 Tryz.f8 rfl rfl rfl rfl rfl rfl rfl ⟨rfl, rfl, rfl, rfl, rfl⟩ rfl rfl rfl rfl rfl (by kernel_rfl) Tryz.func8 (by kernel_rfl)
    (of_decide_eq_true (by kernel_rfl)) (by unfold Func.isWrapper; first | (rw [if_pos (by decide +kernel)]; kernel_rfl) | (rw [if_neg (by decide +kernel)]; exact ⟨rfl, rfl⟩))
    (fun os started H enc _ => lifted os started H enc)
theorem noStand : ∀ t ∈ Tryz.f8.params.toList, Tryz.prog.wantsStandIn t = false := by
  rw [Tryz.params8]
  simp only [List.mem_cons, List.not_mem_nil, or_false]
  rintro t (rfl | rfl | rfl) <;> kernel_rfl
theorem card_holds : Rows.TopTogetherCardSaid :=
  Claim7.holds_tied_plain_at .later [] [.handle] true Rows.topTogetherCard.stood.harness true
    holds (fun _ h => by cases h) (by kernel_rfl) (fun _ h => by cases h) topTogether_row_tie rfl ⟨rfl, rfl⟩ (by kernel_rfl) rfl
    (fun f fn hf hfn => by
      obtain rfl : f = 8 := Option.some.inj ((show Tryz.prog.funcNamed Rows.topTogetherRow.func = some 8 by kernel_rfl).symm.trans hf) |>.symm
      obtain rfl : fn = Tryz.f8 := (Option.some.inj (Tryz.func8.symm.trans hfn)).symm
      exact ⟨by kernel_rfl, fun j t ht => noStand t (by
        have := Array.mem_of_getElem? ht
        simpa using this)⟩)
    (by kernel_rfl)
#print axioms card_holds
end lawTopTogether
end Go.Proofs.YthfbjfocmnikaaaGreatDoor

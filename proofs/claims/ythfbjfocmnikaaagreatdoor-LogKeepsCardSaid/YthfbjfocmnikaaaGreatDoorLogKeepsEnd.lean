/- 11 texts in one: each says ahead of itself what is proved, and its conditions. -/
import Derived.Below
import Derived.ChangeSame
import Derived.ChangeVars
import Derived.Deep.CutBlock
import Derived.Deep.RegionHeld3
import Derived.JoinedOf
import Derived.LaidEql
import Derived.LaidHandle
import Derived.LaidLaws
import Derived.ProofKit
import Derived.RowKit
import Derived.RowKitTokens
import Derived.SevenTiedAt
import Derived.SizedLaws
import Derived.Stop.Asserts
import Derived.Test.YthfbjfocmnikaaaGreatDoorCards
import Derived.Test.YthfbjfocmnikaaaGreatDoorRows
import Derived.Test.YthfbjfocmnikaaaGreatDoorTie
import Derived.WalkKit
import Derived.Test.YthfbjfocmnikaaaGreatDoorKeepSc2
import Derived.Test.YthfbjfocmnikaaaGreatDoorOpen
import Derived.Test.YthfbjfocmnikaaaGreatDoorOpenOps
import Derived.Test.YthfbjfocmnikaaaGreatDoorPlaceCheck
import Derived.Test.YthfbjfocmnikaaaGreatDoorSame0
/- errors.As at an Errno. Conditions: the library's one variable holds what its text lays. (After the guide's worked toy on errors.As.) -/
namespace Go.Proofs.YthfbjfocmnikaaaGreatDoor
open Go.RowKit Go.Extern.Stop Go.Stop Go.Extern
set_option linter.unusedVariables false
namespace As

theorem valueOfP (t : Addr) (w : World) : (ReflectliteValue.unpack (.iface 206 (.pointer (some t)))).run Tryz.prog w
    = .ok (.agg #[.pointer (some ⟨2, 206, none⟩), .pointer (some ⟨w.heap.size, 0, none⟩), .int .u64 150]) (w.alloc (.cells #[.pointer (some t)] 206)) := by kernel_rfl
theorem typeP (a : Addr) (w : World) : (ReflectliteValue.methodAny (ReflectliteValue.valueError "reflectlite.Value.Type" 0) (fun t _ _ _ => ReflectliteType.toType t) #[.agg #[.pointer (some ⟨2, 206, none⟩), .pointer (some a), .int .u64 150]]).run Tryz.prog w
    = .ok (.iface 300 (.agg #[.pointer (some ⟨2, 206, none⟩)])) w := by kernel_rfl
theorem kindP (w : World) : ((ReflectliteType.abiMethod fun t => (fun a : Nat => Value.int IntKind.u8 (a : Int)) <$> Rtype.kind t) #[.pointer (some ⟨2, 206, none⟩)]).run Tryz.prog w = .ok (.int .u8 22) w := by kernel_rfl
theorem kindE (w : World) : ((ReflectliteType.abiMethod fun t => (fun a : Nat => Value.int IntKind.u8 (a : Int)) <$> Rtype.kind t) #[.pointer (some ⟨2, 119, none⟩)]).run Tryz.prog w = .ok (.int .u8 2) w := by kernel_rfl
theorem rlm (z : Sem Value) (f : TypeId → Addr → Nat → Nat → Sem Value) (v : Value) :
    ReflectliteValue.method z f #[v] = (do match ← ReflectliteValue.parts v with | none => z | some (t, a, fl) => f t a fl (fl % 32)) := rfl
theorem partsP (a : Addr) (w : World) : (ReflectliteValue.parts (.agg #[.pointer (some ⟨2, 206, none⟩), .pointer (some a), .int .u64 150])).run Tryz.prog w = .ok (some (206, a, 150)) w := by kernel_rfl
theorem isNilP (a p : Addr) (W : World) (ha : W.cell? a = some (.pointer (some p))) :
    (ReflectliteValue.method (ReflectliteValue.valueError "reflectlite.Value.IsNil" 0) ReflectliteValue.isNil #[.agg #[.pointer (some ⟨2, 206, none⟩), .pointer (some a), .int .u64 150]]).run Tryz.prog W = .ok (.bool false) W := by
  rw [rlm]
  simp only [Sem.run_bind, partsP, Result.andThen]
  simp [ReflectliteValue.isNil, loadVar, isAgg, underlying, Tryz.underlying206, ha, Result.andThen]
theorem elemP (w : World) : (ReflectliteType.method ReflectliteType.elem #[.agg #[.pointer (some ⟨2, 206, none⟩)]]).run Tryz.prog w = .ok (.iface 300 (.agg #[.pointer (some ⟨2, 119, none⟩)])) w := by kernel_rfl
theorem implementsE (w : World) : (ReflectliteType.relation "Implements" ReflectliteType.implements_ #[.agg #[.pointer (some ⟨2, 119, none⟩)], .iface 300 (.agg #[.pointer (some ⟨2, 32, none⟩)])]).run Tryz.prog w = .ok (.bool true) w := by kernel_rfl
theorem typeOfE (v : Value) (w : World) : (ReflectliteType.typeOf #[.iface 119 v]).run Tryz.prog w = .ok (.iface 300 (.agg #[.pointer (some ⟨2, 119, none⟩)])) w := by kernel_rfl
theorem assignableE (w : World) : (ReflectliteType.relation "AssignableTo" ReflectliteType.assignableTo #[.agg #[.pointer (some ⟨2, 119, none⟩)], .iface 300 (.agg #[.pointer (some ⟨2, 119, none⟩)])]).run Tryz.prog w = .ok (.bool true) w := by kernel_rfl
theorem valueOfE (n : Int) (w : World) : (ReflectliteValue.unpack (.iface 119 (.int .i64 n))).run Tryz.prog w
    = .ok (.agg #[.pointer (some ⟨2, 119, none⟩), .pointer (some ⟨w.heap.size, 0, none⟩), .int .u64 130]) (w.alloc (.cells #[.int .i64 n] 119)) := by kernel_rfl
theorem elemOfP (w : World) : (Rtype.elem? 206).run Tryz.prog w = .ok (some 119) w := by kernel_rfl
theorem mkE (p : Addr) (w : World) : (ReflectliteValue.mk 119 p ReflectliteValue.flagAddr).run Tryz.prog w = .ok (.agg #[.pointer (some ⟨2, 119, none⟩), .pointer (some p), .int .u64 386]) w := by kernel_rfl
theorem elemVP (a p : Addr) (W : World) (ha : W.cell? a = some (.pointer (some p))) :
    (ReflectliteValue.method (ReflectliteValue.valueError "reflectlite.Value.Elem" 0) ReflectliteValue.elem #[.agg #[.pointer (some ⟨2, 206, none⟩), .pointer (some a), .int .u64 150]]).run Tryz.prog W
      = .ok (.agg #[.pointer (some ⟨2, 119, none⟩), .pointer (some p), .int .u64 386]) W := by
  rw [rlm]
  simp only [Sem.run_bind, partsP, Result.andThen]
  simp [ReflectliteValue.elem, loadVar, isAgg, underlying, Tryz.underlying206, ha, Result.andThen, elemOfP, mkE]
theorem methodKind (k : Nat) (h : Value) (w : World) : (Go.method (k + 3) 300 (.agg #[h]) "Kind").run Tryz.prog w = .ok (282, h) w := by kernel_rfl
theorem methodElem (k : Nat) (h : Value) (w : World) : (Go.method (k + 3) 300 (.agg #[h]) "Elem").run Tryz.prog w = .ok (293, .agg #[h]) w := by kernel_rfl
theorem methodImplements (k : Nat) (h : Value) (w : World) : (Go.method (k + 3) 300 (.agg #[h]) "Implements").run Tryz.prog w = .ok (294, .agg #[h]) w := by kernel_rfl
theorem methodAssignableTo (k : Nat) (h : Value) (w : World) : (Go.method (k + 3) 300 (.agg #[h]) "AssignableTo").run Tryz.prog w = .ok (291, .agg #[h]) w := by kernel_rfl
theorem set_run (ta b : Addr) (W : World) :
    (ReflectliteValue.set #[.agg #[.pointer (some ⟨2, 119, none⟩), .pointer (some ta), .int .u64 386], .agg #[.pointer (some ⟨2, 119, none⟩), .pointer (some b), .int .u64 130]]).run Tryz.prog W
      = (do let val ← loadVar 119 b; storeVar 119 ta val; pure (.tuple #[]) : Sem Value).run Tryz.prog W := by kernel_rfl
theorem setE (ta b : Addr) (n : Int) (old : Value) (W : World) (hb : W.cell? b = some (.int .i64 n)) (ht : W.cell? ta = some old) (hf : W.frozen? ta = false) :
    (ReflectliteValue.set #[.agg #[.pointer (some ⟨2, 119, none⟩), .pointer (some ta), .int .u64 386], .agg #[.pointer (some ⟨2, 119, none⟩), .pointer (some b), .int .u64 130]]).run Tryz.prog W
      = .ok (.tuple #[]) (W.setCell ta (.int .i64 n)) := by
  rw [set_run]
  simp only [Sem.run_bind]
  simp [loadVar, isAgg, underlying, Tryz.underlying119, hb, Result.andThen, storeVar, Value.cells, storeCells, Addr.add]
  rw [run_store Tryz.prog W ta _ _ (by rfl)]
  simp [ht, hf]
set_option maxRecDepth 100000 in
set_option maxHeartbeats 4000000 in
theorem as_hit (n : Int) (t : Addr) (old : Value) (w : World) (hg : w.cell? ⟨0, 0, none⟩ = some (.iface 300 (.agg #[.pointer (some ⟨2, 32, none⟩)]))) (ht0 : w.cell? t = some old) (hf0 : w.frozen? t = false) :
    Calls Tryz.prog 133 #[.iface 119 (.int .i64 n), .iface 206 (.pointer (some t))] w fun ev w' => ev = .returned (.bool true) ∧ w' = ((((w.alloc (.cells #[.pointer (some t)] 206)).alloc (.cells #[.pointer (some ⟨2, 206, none⟩), .pointer (some ⟨w.heap.size, 0, none⟩), .int .u64 150] 261)).alloc (.cells #[.pointer (some ⟨2, 206, none⟩), .pointer (some ⟨w.heap.size, 0, none⟩), .int .u64 150] 261)).alloc (.cells #[.int .i64 n] 119)).setCell t (.int .i64 n) := by
  have hVO := @run_callFunc_extern Tryz.prog 180 _ (fun args => ReflectliteValue.unpack (args.getD 0 (.tuple #[]))) Tryz.func180 (by kernel_rfl) (by kernel_rfl) (by kernel_rfl) (by kernel_rfl)
  have hTy := @run_callFunc_extern Tryz.prog 181 _ (ReflectliteValue.methodAny (ReflectliteValue.valueError "reflectlite.Value.Type" 0) (fun t _ _ _ => ReflectliteType.toType t)) Tryz.func181 (by kernel_rfl) (by kernel_rfl) (by kernel_rfl) (by kernel_rfl)
  have hNi := @run_callFunc_extern Tryz.prog 182 _ (ReflectliteValue.method (ReflectliteValue.valueError "reflectlite.Value.IsNil" 0) ReflectliteValue.isNil) Tryz.func182 (by kernel_rfl) (by kernel_rfl) (by kernel_rfl) (by kernel_rfl)
  have hKi := @run_callFunc_extern Tryz.prog 282 _ (ReflectliteType.abiMethod fun t => do pure (.int .u8 (← Rtype.kind t))) Tryz.func282 (by kernel_rfl) (by kernel_rfl) (by kernel_rfl) (by kernel_rfl)
  have hEl := @run_callFunc_extern Tryz.prog 293 _ (ReflectliteType.method ReflectliteType.elem) Tryz.func293 (by kernel_rfl) (by kernel_rfl) (by kernel_rfl) (by kernel_rfl)
  have hIm := @run_callFunc_extern Tryz.prog 294 _ (ReflectliteType.relation "Implements" ReflectliteType.implements_) Tryz.func294 (by kernel_rfl) (by kernel_rfl) (by kernel_rfl) (by kernel_rfl)
  have hTO := @run_callFunc_extern Tryz.prog 214 _ ReflectliteType.typeOf Tryz.func214 (by kernel_rfl) (by kernel_rfl) (by kernel_rfl) (by kernel_rfl)
  have hAs := @run_callFunc_extern Tryz.prog 291 _ (ReflectliteType.relation "AssignableTo" ReflectliteType.assignableTo) Tryz.func291 (by kernel_rfl) (by kernel_rfl) (by kernel_rfl) (by kernel_rfl)
  have hVE := @run_callFunc_extern Tryz.prog 215 _ (ReflectliteValue.method (ReflectliteValue.valueError "reflectlite.Value.Elem" 0) ReflectliteValue.elem) Tryz.func215 (by kernel_rfl) (by kernel_rfl) (by kernel_rfl) (by kernel_rfl)
  have hVS := @run_callFunc_extern Tryz.prog 216 _ ReflectliteValue.set Tryz.func216 (by kernel_rfl) (by kernel_rfl) (by kernel_rfl) (by kernel_rfl)
  have tO := typeOfE
  have a25 := assignableE
  have v25 := valueOfE
  have f6 := valueOfP
  have f7 := typeP
  have mK := methodKind
  have mE := methodElem
  have mI := methodImplements
  have mA := methodAssignableTo
  have k27 := kindP
  have k25 := kindE
  have e27 := elemP
  have i25 := implementsE
  have n8 := isNilP ⟨w.heap.size, 0, none⟩ t ((w.alloc (.cells #[.pointer (some t)] 206)).alloc (.cells #[.pointer (some ⟨2, 206, none⟩), .pointer (some ⟨w.heap.size, 0, none⟩), .int .u64 150] 261)) (by simp)
  have hlt : 0 < w.heap.size := by
    rcases Nat.lt_or_ge 0 w.heap.size with h | h1
    · exact h
    · simp [World.cell?, Array.getElem?_eq_none h1] at hg
  have hg2 : ((w.alloc (.cells #[.pointer (some t)] 206)).alloc (.cells #[.pointer (some ⟨2, 206, none⟩), .pointer (some ⟨w.heap.size, 0, none⟩), .int .u64 150] 261)).cell? ⟨0, 0, none⟩ = some (.iface 300 (.agg #[.pointer (some ⟨2, 32, none⟩)])) := by
    rw [World.cell?_alloc_lt _ _ ⟨0, 0, none⟩ (Nat.lt_of_lt_of_le hlt (by simp)), World.cell?_alloc_lt _ _ ⟨0, 0, none⟩ hlt]; exact hg
  have htl : t.block < w.heap.size := by
    rcases Nat.lt_or_ge t.block w.heap.size with h | h
    · exact h
    · simp [World.cell?, Array.getElem?_eq_none h] at ht0
  have el := elemVP ⟨w.heap.size, 0, none⟩ t (((w.alloc (.cells #[.pointer (some t)] 206)).alloc (.cells #[.pointer (some ⟨2, 206, none⟩), .pointer (some ⟨w.heap.size, 0, none⟩), .int .u64 150] 261)).alloc (.cells #[.pointer (some ⟨2, 206, none⟩), .pointer (some ⟨w.heap.size, 0, none⟩), .int .u64 150] 261)) (by rw [World.cell?_alloc_lt _ _ ⟨w.heap.size, 0, none⟩ (by simp; omega)]; simp)
  have st := setE t ⟨w.heap.size + 1 + 1 + 1, 0, none⟩ n old ((((w.alloc (.cells #[.pointer (some t)] 206)).alloc (.cells #[.pointer (some ⟨2, 206, none⟩), .pointer (some ⟨w.heap.size, 0, none⟩), .int .u64 150] 261)).alloc (.cells #[.pointer (some ⟨2, 206, none⟩), .pointer (some ⟨w.heap.size, 0, none⟩), .int .u64 150] 261)).alloc (.cells #[.int .i64 n] 119))
    (by rw [World.cell?_alloc_at _ _ _ _ (by simp)]; rfl)
    (by rw [World.cell?_alloc_lt _ _ t (by simp; omega), World.cell?_alloc_lt _ _ t (by simp; omega), World.cell?_alloc_lt _ _ t (by simp; omega), World.cell?_alloc_lt _ _ t htl]; exact ht0)
    (by rw [World.frozen?_alloc_old _ _ t (by simp; omega), World.frozen?_alloc_old _ _ t (by simp; omega), World.frozen?_alloc_old _ _ t (by simp; omega), World.frozen?_alloc_old _ _ t (Nat.ne_of_lt htl)]; exact hf0)
  go_enter Tryz.func133, Tryz.ntmps133
  go_wp2
  refine wp_loop_rounds 1 ?_
  rw [rounds_succ]
  go_wp2
  go_ret
  exact ⟨rfl, rfl⟩
end As
end Go.Proofs.YthfbjfocmnikaaaGreatDoor
/- plain.Told, leafsame.Error: the number of an error. Conditions: the library's one variable holds what its text lays. -/
namespace Go.Proofs.YthfbjfocmnikaaaGreatDoor
open Go.RowKit
set_option linter.unusedVariables false

/-- The library's one variable holds what its text lays. -/
def Glob (w : World) : Prop := w.cell? ⟨0, 0, none⟩ = some (.iface 300 (.agg #[.pointer (some ⟨2, 32, none⟩)]))
theorem Glob.lt {w : World} (h : Glob w) : 0 < w.heap.size := by
  rcases Nat.lt_or_ge 0 w.heap.size with h1 | h1
  · exact h1
  · unfold Glob at h; simp [World.cell?, Array.getElem?_eq_none h1] at h
theorem Glob.below {w w' : World} (h : Glob w) {B : Nat} (hb : Below B w w') (hB : w.heap.size ≤ B) : Glob w' := (hb.cell (p := ⟨0, 0, none⟩) (Nat.lt_of_lt_of_le h.lt hB)).trans h
theorem Glob.alloc {w : World} (h : Glob w) (o : Obj) : Glob (w.alloc o) := h.below ((Below.refl _ _).alloc (Nat.le_refl _) _) (Nat.le_refl _)

set_option maxRecDepth 100000 in
set_option maxHeartbeats 1000000 in
theorem told_any (w : World) (k : Int) (hg : Glob w) : Calls Tryz.prog 73 #[errV k] w (CheckPost w (.int .i64 k)) := by
  by_cases h : k = 0
  · subst h
    rw [show errV 0 = .nilIface from rfl]
    go_enter Tryz.func73, Tryz.ntmps73
    go_wp2_with fail
    go_ret
    exact ⟨rfl, Below.refl _ _⟩
  · rw [errV_ne h]
    have HA := Lib.hid (As.as_hit k ⟨w.heap.size, 0, none⟩ (.int .i64 0) (w.alloc (.cells #[.int .i64 0] 119)) (hg.alloc _) (by simp) (by simp))
    have hsz : w.heap.size < w.heap.size + 1 := by omega
    clear h hg
    go_enter Tryz.func73, Tryz.ntmps73
    go_wp2_with fail
    refine HA.out.mono ?_
    rintro e w1 ⟨rfl, hw1⟩
    have hc : w1.cell? ⟨w.heap.size, 0, none⟩ = some (.int .i64 k) := by
      rw [hw1]
      refine World.cell?_setCell_same _ _ _ (u := .int .i64 0) ?_
      rw [World.cell?_alloc_lt _ _ _ (by simp; omega), World.cell?_alloc_lt _ _ _ (by simp; omega), World.cell?_alloc_lt _ _ _ (by simp; omega), World.cell?_alloc_lt _ _ _ (by simp)]
      simp
    have hb : Hid (Below w.heap.size w w1) := by
      show Below _ _ _
      rw [hw1]
      exact (((((((Below.refl _ _).alloc (Nat.le_refl _) _).alloc (by simp) _).alloc (by simp; omega) _).alloc (by simp; omega) _).alloc (by simp; omega) _).setCell (by simp) _)
    clear hw1 HA
    go_wp2_with fail
    go_ret
    exact ⟨rfl, hb.out⟩
set_option maxRecDepth 100000 in
theorem error_any (w : World) (k e : Int) (hg : Glob w) : Calls Tryz.prog 21 #[errV k, .int .i64 e] w (CheckPost w (.bool (k == e))) := by
  have HT := Lib.hid (told_any w k hg)
  clear hg
  go_enter Tryz.func21, Tryz.ntmps21
  go_wp2_with fail
  refine HT.out.mono ?_
  rintro e1 w1 ⟨rfl, hb⟩
  go_wp2_with fail
  go_ret
  exact ⟨rfl, hb⟩
end Go.Proofs.YthfbjfocmnikaaaGreatDoor
/- From a walk to a given statement: one theorem that serves every law of the seat. Conditions: none of our own. -/
namespace Go.Proofs.YthfbjfocmnikaaaGreatDoor
open Go.RowKit Go.WideShapes Go.ChangeShapes Go.ChangeAt
set_option linter.unusedVariables false

section
variable {H : Type} {enc : TypeId × Value → H} {P : Program}

theorem post_of_below {f : Func} {s : ChangeSpec} {apart fresh handsOn again : Bool} {W W' : World} {args : Array Value} {v : Value} {ds gs : List (DataW H)} {before pa pv : List MemPlace}
    (hW : DataW.Whole enc P f.params.toList s.vars apart W args.toList ds gs before)
    (hres : ∀ (b : Nat) (sp : Nat → Bool) (hd : Bool), DataW.TrodAll enc P W' b sp hd f.resultTypes.toList (v.resultList f.resultTypes.size) (s.fn H (ds ++ gs)).results [])
    (hargs : ∀ sp : Nat → Bool, (∀ p ∈ before, sp p.block = true) → DataW.TrodAll enc P W' 0 sp true f.params.toList args.toList (s.fn H (ds ++ gs)).args pa)
    (hvars : ∀ sp : Nat → Bool, (∀ p ∈ before, sp p.block = true) → DataW.TrodVars enc P W' sp s.vars (s.fn H (ds ++ gs)).vars pv)
    (hps : before = pa ++ pv) (hb : Below W.heap.size W W')
    (hok : ∀ (j : Nat) (t : TypeId) (r : Value), f.resultTypes[j]? = some t → (v.resultList f.resultTypes.size)[j]? = some r → Value.okWide P W' .any 0 t r) :
    s.post enc P f apart fresh handsOn again W args v W' := by
  have hlt : ∀ p ∈ before, p.block < W.heap.size := fun p hp => hW.lt p hp
  have hold : ∀ p ∈ before, (fun b => decide (b < W.heap.size)) p.block = true := fun p hp => by simpa using hlt p hp
  refine ⟨ds, gs, before, [], pa, pv, hW, hres _ _ _, hargs _ hold, hvars _ hold, World.keptBut_mono (fun p hp => ⟨hp, ?_⟩) (hb.frame (· ∈ before)), fun _ => ?_⟩
  · rw [hps, List.mem_append] at hp
    exact Or.inr hp
  · obtain ⟨_, _, _, _, _, hz, hn⟩ := hW
    refine ⟨hok, _, _, ([] ++ pa) ++ pv, ⟨[] ++ pa, pv, trodAll_append (hargs _ (fun _ _ => rfl)) (hres _ _ _), hvars _ (fun _ _ => rfl), rfl, ?_, ?_⟩, ?_⟩
    · intro b off hp
      have hin : MemPlace.cell b off ∈ before := by rw [hps]; simpa using hp
      rw [hb.frozen (hlt _ hin)]
      exact hz b off hin
    · intro ha
      have := hn ha
      rw [hps] at this
      simpa using this
    · intro p hp _
      rw [hps]
      simpa using hp

theorem trodAll_below (hl : laidOutB P = true) {W W' : World} (hb : Below W.heap.size W W') {sp : Nat → Bool} :
    ∀ (ts : List TypeId) (vs : List Value) (ds : List (DataW H)) (ps : List MemPlace), (∀ t ∈ ts, P.readableRec t = true ∧ t < P.types.size) → (∀ p ∈ ps, p.block < W.heap.size) → (∀ p ∈ ps, sp p.block = true) →
      DataW.TrodAll enc P W 0 (fun _ => true) true ts vs ds ps → DataW.TrodAll enc P W' 0 sp true ts vs ds ps := by
  intro ts
  induction ts with
  | nil => intro vs ds ps _ _ _ h; cases vs <;> cases ds <;> simp_all [DataW.TrodAll]
  | cons t ts ih =>
    intro vs ds ps ht hlt hs h
    cases vs with
    | nil => simp [DataW.TrodAll] at h
    | cons v vs =>
      cases ds with
      | nil => simp [DataW.TrodAll] at h
      | cons d ds =>
        obtain ⟨p, q, h1, h2, rfl⟩ := h
        exact ⟨p, q, WideElems.Trod_stays hl (ht t (by simp)).1 (ht t (by simp)).2 h1 (fun x hx => hb.same (hlt x (by simp [hx]))) (fun x hx => hs x (by simp [hx])),
          ih vs ds q (fun t' h' => ht t' (by simp [h'])) (fun x hx => hlt x (by simp [hx])) (fun x hx => hs x (by simp [hx])) h2, rfl⟩

/-- A law: it answered true, and nothing that was there has turned. -/
theorem law_post (hl : laidOutB P = true) {f : Func} {s : ChangeSpec} {apart fresh handsOn again : Bool} {tb : TypeId} {W W' : World} {args : Array Value} {ds gs : List (DataW H)} {before : List MemPlace}
    (hr : f.resultTypes = #[tb]) (htb : P.underlying tb = some .bool) (hp : ∀ t ∈ f.params.toList, P.readableRec t = true ∧ t < P.types.size) (hv : s.vars = [])
    (hfn : s.fn H ds = { results := [.lit (.bool true)], args := ds })
    (hW : DataW.Whole enc P f.params.toList s.vars apart W args.toList ds gs before) (hb : Below W.heap.size W W') :
    s.post enc P f apart fresh handsOn again W args (.bool true) W' := by
  have hW' := hW
  obtain ⟨p, q, hA, hV, hpq, hfz, hnd⟩ := hW
  have hlt : ∀ x ∈ before, x.block < W.heap.size := fun x hx => hW'.lt x hx
  rw [hv] at hV
  obtain ⟨hgs, hq⟩ := trodVars_none hV
  subst hgs; subst hq
  simp only [List.append_nil] at hpq
  subst hpq
  refine post_of_below (pa := before) (pv := []) hW' ?_ ?_ ?_ (by simp) hb ?_
  · intro b sp hd
    rw [List.append_nil, hfn, hr]
    exact trodAll_mk1 (shut_bool htb _)
  · intro sp hs
    rw [List.append_nil, hfn]
    exact trodAll_below hl hb _ _ _ _ hp hlt hs hA
  · intro sp hs
    rw [List.append_nil, hfn, hv]
    exact rfl
  · exact ok_one hr rfl (okWide_bool_mk htb _)
end

theorem Tryz.own : ownKnob Tryz.prog.godebug = none := by kernel_rfl
theorem Tryz.laidOut : laidOutB Tryz.prog = true := by kernel_rfl
end Go.Proofs.YthfbjfocmnikaaaGreatDoor
/- From a walk to a tied card: what serves every law of a seat whose rows list the library's one variable. Conditions: none of our own. (After the guide's worked toy on errors.As.) -/
namespace Go.Proofs.YthfbjfocmnikaaaGreatDoor
open Go.ChangeShapes Go.WideShapes Go.RowKit
set_option linter.unusedVariables false
namespace Card

/-- What the rows list. -/
def laid : List (String × DataW Unit) := [("errors.errorType", Rows.laid_errors_errorType)]
theorem et : Tryz.prog.globalNamed "errors.errorType" = some 0 := by kernel_rfl
theorem rt : (Tryz.prog.cutTypes.find? (·.1 == "internal/reflectlite.rtype")).map (·.2) = some 300 := by kernel_rfl
theorem oneRow : ((List.range Tryz.prog.types.size).filter fun t => Tryz.prog.rowNamed t [101, 114, 114, 111, 114]) = [32] := by kernel_rfl
theorem handle : typeHandle Tryz.prog 32 = .pointer (some ⟨2, 32, none⟩) := by kernel_rfl
/-- What the condition gives a walk: the variable's one cell. -/
theorem glob_of_laid {W : World} (h : laidMetH Tryz.prog laid W) : Glob W := by
  have h' : laidMet Tryz.prog [] W ∧ handlesMet Tryz.prog laid W := h
  obtain ⟨name, u, ty, e1, e2, e3, e4, e5⟩ := h'.2 _ (List.mem_singleton.2 rfl)
  have en : name = [101, 114, 114, 111, 114] := (Option.some.inj e1).symm
  subst en
  obtain rfl := Option.some.inj (rt.symm.trans e2)
  have hm : ty ∈ (List.range Tryz.prog.types.size).filter fun t => Tryz.prog.rowNamed t [101, 114, 114, 111, 114] := List.mem_filter.2 ⟨List.mem_range.2 e3, e4⟩
  rw [oneRow] at hm
  obtain rfl := List.mem_singleton.1 hm
  rw [handle] at e5
  unfold Glob
  simpa using World.var?_cell et e5 0
/-- A world that meets the condition: the settled one, the variable's cell laid. -/
noncomputable def laidWorld (os : Os) : World :=
  let w0 := World.holding Tryz.prog os ⟨#[], #[], []⟩
  { w0 with heap := w0.heap.modify 0 fun
      | .cells _ t frozen => .cells #[.iface 300 (.agg #[.pointer (some ⟨2, 32, none⟩)])] t frozen
      | o => o }
theorem laidWorld_met (os : Os) (args : Array Value) : laidMetH Tryz.prog laid ((laidWorld os).forCall (fun _ _ => 0) ⟨#[], args, []⟩).memory :=
  laidMetH_of_parts (laidMet_nil _ _) (by kernel_rfl)
end Card
end Go.Proofs.YthfbjfocmnikaaaGreatDoor
/- leaflaw3.LogKeeps, behind a crash: the documents are compared, the rows are cut. Conditions: none of our own. -/
namespace Go.Proofs.YthfbjfocmnikaaaGreatDoor
open Go.RowKit
set_option linter.unusedVariables false
namespace lawLogKeepsCr
/-- Where the code stands at region n, inside loops too. -/
def headAt (n : Nat) : Code → Bool
  | .region k _ _ => k == n
  | .seq a _ => headAt n a
  | _ => false
def fromAt (n : Nat) : Code → Option Code
  | .seq a b => if headAt n a then some (.seq a b) else match fromAt n a with
    | some c => some c
    | none => fromAt n b
  | .block _ c => fromAt n c
  | .loop c => fromAt n c
  | .scope c => fromAt n c
  | _ => none
/-- What a crash leaves, whatever the scratch holds. -/
def CrashQ (w : World) (B b r a : Nat) (p0 p1 p2 p3 : Value) (Q : Exit → Act → World → Prop) : Prop :=
  ∀ (n3 : Nat) (L3 : LLog) (A1 : Option Addr) (c1 : Nat) (A2 : Option Addr) (c2 : Nat) (wx : World) (v4 v5 v6 v7 v8 v9 v10 v11 v12 v13 v14 v15 v21 v22 v23 v24 v25 v26 v27 v28 v29 v30 v31 v32 v33 v34 v35 v36 v37 v38 v39 v40 v41 v42 v43 v44 v45 v46 v47 v48 v49 v50 v51 v52 v53 v54 v55 v56 v57 v58 v59 v60 v61 v62 v63 v64 v65 v66 v67 v68 v69 v70 v71 v72 v73 v74 v75 v76 v77 v78 v79 v80 v81 v82 v83 v84 v85 v86 v87 v88 v89 v90 v91 v92 v93 v94 v95 v96 v97 v98 v99 v100 v101 v102 v103 v104 v105 v106 v107 v108 v109 v110 v111 v112 v113 v114 v115 v116 v117 v118 v119 v120 v121 v122 v123 v124 v125 v126 v127 v128 v129 v130 v131 v132 v133 v134 v135 v136 v137 v138 v139 v140 v141 v142 v143 v144 v145 v146 v147 v148 v149 v150 v151 v152 v153 v154 v155 v156 v157 v158 v159 v160 v161 v162 v163 v164 v165 v166 v167 v168 v169 v170 v171 v172 v173 v174 v175 v176 v177 v178 v179 v180 v181 v182 v183 v184 v185 v186 v187 v188 v189 v190 v191 v192 v193 v194 v195 v196 v197 v198 v199 v200 v201 v202 v203 v204 v205 v206 v207 v208 v209 v210 v211 v212 v213 v214 v215 v216 v217 v218 v219 v220 v221 v222 v223 v224 v225 v226 v227 v228 v229 v230 v231 v232 v233 v234 v235 v236 v237 v238 v239 v240 v241 v242 v243 v244 v245 v246 v247 v248 v249 v250 v251 v252 v253 v254 v255 v256 v257 v258 v259 v260 v261 v262 v263 v264 v265 v266 v267 v268 v269 v270 v271 v272 v273 v274 v275 v276 v277 v278 v279 v280 v281 v282 v283 v284 v285 v286 v287 v288 v289 v290 v291 v292 v293 v294 v295 v296 v297 v298 v299 v300 v301 v302 v303 v304 v305 v306 v307 v308 v309 v310 v311 v312 v313 v314 v315 v316 v317 v318 v319 v320 v321 v322 v323 v324 v325 v326 v327 v328 v329 v330 v331 v332 v333 v334 v335 v336 v337 : Value), Hid (KAt w B b L3 L3.kept n3 A1 c1 A2 c2 wx) → Q .normal ⟨#[p0, p1, p2, p3, v4, v5, v6, v7, v8, v9, v10, v11, v12, v13, v14, v15, .pointer (some ⟨b, 0, none⟩), .slice A1 (n3 + 1) c1, .slice A2 (n3 + 1) c2, .int .i64 (a : Nat), .int .i64 (r : Nat), v21, v22, v23, v24, v25, v26, v27, v28, v29, v30, v31, v32, v33, v34, v35, v36, v37, v38, v39, v40, v41, v42, v43, v44, v45, v46, v47, v48, v49, v50, v51, v52, v53, v54, v55, v56, v57, v58, v59, v60, v61, v62, v63, v64, v65, v66, v67, v68, v69, v70, v71, v72, v73, v74, v75, v76, v77, v78, v79, v80, v81, v82, v83, v84, v85, v86, v87, v88, v89, v90, v91, v92, v93, v94, v95, v96, v97, v98, v99, v100, v101, v102, v103, v104, v105, v106, v107, v108, v109, v110, v111, v112, v113, v114, v115, v116, v117, v118, v119, v120, v121, v122, v123, v124, v125, v126, v127, v128, v129, v130, v131, v132, v133, v134, v135, v136, v137, v138, v139, v140, v141, v142, v143, v144, v145, v146, v147, v148, v149, v150, v151, v152, v153, v154, v155, v156, v157, v158, v159, v160, v161, v162, v163, v164, v165, v166, v167, v168, v169, v170, v171, v172, v173, v174, v175, v176, v177, v178, v179, v180, v181, v182, v183, v184, v185, v186, v187, v188, v189, v190, v191, v192, v193, v194, v195, v196, v197, v198, v199, v200, v201, v202, v203, v204, v205, v206, v207, v208, v209, v210, v211, v212, v213, v214, v215, v216, v217, v218, v219, v220, v221, v222, v223, v224, v225, v226, v227, v228, v229, v230, v231, v232, v233, v234, v235, v236, v237, v238, v239, v240, v241, v242, v243, v244, v245, v246, v247, v248, v249, v250, v251, v252, v253, v254, v255, v256, v257, v258, v259, v260, v261, v262, v263, v264, v265, v266, v267, v268, v269, v270, v271, v272, v273, v274, v275, v276, v277, v278, v279, v280, v281, v282, v283, v284, v285, v286, v287, v288, v289, v290, v291, v292, v293, v294, v295, v296, v297, v298, v299, v300, v301, v302, v303, v304, v305, v306, v307, v308, v309, v310, v311, v312, v313, v314, v315, v316, v317, v318, v319, v320, v321, v322, v323, v324, v325, v326, v327, v328, v329, v330, v331, v332, v333, v334, v335, v336, v337], []⟩ wx
theorem CrashQ.use {w : World} {B b r a : Nat} {p0 p1 p2 p3 : Value} {Q : Exit → Act → World → Prop} (h : CrashQ w B b r a p0 p1 p2 p3 Q) {n3 : Nat} {L3 : LLog} {A1 : Option Addr} {c1 : Nat} {A2 : Option Addr} {c2 : Nat} {wx : World} {v4 v5 v6 v7 v8 v9 v10 v11 v12 v13 v14 v15 v21 v22 v23 v24 v25 v26 v27 v28 v29 v30 v31 v32 v33 v34 v35 v36 v37 v38 v39 v40 v41 v42 v43 v44 v45 v46 v47 v48 v49 v50 v51 v52 v53 v54 v55 v56 v57 v58 v59 v60 v61 v62 v63 v64 v65 v66 v67 v68 v69 v70 v71 v72 v73 v74 v75 v76 v77 v78 v79 v80 v81 v82 v83 v84 v85 v86 v87 v88 v89 v90 v91 v92 v93 v94 v95 v96 v97 v98 v99 v100 v101 v102 v103 v104 v105 v106 v107 v108 v109 v110 v111 v112 v113 v114 v115 v116 v117 v118 v119 v120 v121 v122 v123 v124 v125 v126 v127 v128 v129 v130 v131 v132 v133 v134 v135 v136 v137 v138 v139 v140 v141 v142 v143 v144 v145 v146 v147 v148 v149 v150 v151 v152 v153 v154 v155 v156 v157 v158 v159 v160 v161 v162 v163 v164 v165 v166 v167 v168 v169 v170 v171 v172 v173 v174 v175 v176 v177 v178 v179 v180 v181 v182 v183 v184 v185 v186 v187 v188 v189 v190 v191 v192 v193 v194 v195 v196 v197 v198 v199 v200 v201 v202 v203 v204 v205 v206 v207 v208 v209 v210 v211 v212 v213 v214 v215 v216 v217 v218 v219 v220 v221 v222 v223 v224 v225 v226 v227 v228 v229 v230 v231 v232 v233 v234 v235 v236 v237 v238 v239 v240 v241 v242 v243 v244 v245 v246 v247 v248 v249 v250 v251 v252 v253 v254 v255 v256 v257 v258 v259 v260 v261 v262 v263 v264 v265 v266 v267 v268 v269 v270 v271 v272 v273 v274 v275 v276 v277 v278 v279 v280 v281 v282 v283 v284 v285 v286 v287 v288 v289 v290 v291 v292 v293 v294 v295 v296 v297 v298 v299 v300 v301 v302 v303 v304 v305 v306 v307 v308 v309 v310 v311 v312 v313 v314 v315 v316 v317 v318 v319 v320 v321 v322 v323 v324 v325 v326 v327 v328 v329 v330 v331 v332 v333 v334 v335 v336 v337 : Value} (hk : Hid (KAt w B b L3 L3.kept n3 A1 c1 A2 c2 wx)) : Q .normal ⟨#[p0, p1, p2, p3, v4, v5, v6, v7, v8, v9, v10, v11, v12, v13, v14, v15, .pointer (some ⟨b, 0, none⟩), .slice A1 (n3 + 1) c1, .slice A2 (n3 + 1) c2, .int .i64 (a : Nat), .int .i64 (r : Nat), v21, v22, v23, v24, v25, v26, v27, v28, v29, v30, v31, v32, v33, v34, v35, v36, v37, v38, v39, v40, v41, v42, v43, v44, v45, v46, v47, v48, v49, v50, v51, v52, v53, v54, v55, v56, v57, v58, v59, v60, v61, v62, v63, v64, v65, v66, v67, v68, v69, v70, v71, v72, v73, v74, v75, v76, v77, v78, v79, v80, v81, v82, v83, v84, v85, v86, v87, v88, v89, v90, v91, v92, v93, v94, v95, v96, v97, v98, v99, v100, v101, v102, v103, v104, v105, v106, v107, v108, v109, v110, v111, v112, v113, v114, v115, v116, v117, v118, v119, v120, v121, v122, v123, v124, v125, v126, v127, v128, v129, v130, v131, v132, v133, v134, v135, v136, v137, v138, v139, v140, v141, v142, v143, v144, v145, v146, v147, v148, v149, v150, v151, v152, v153, v154, v155, v156, v157, v158, v159, v160, v161, v162, v163, v164, v165, v166, v167, v168, v169, v170, v171, v172, v173, v174, v175, v176, v177, v178, v179, v180, v181, v182, v183, v184, v185, v186, v187, v188, v189, v190, v191, v192, v193, v194, v195, v196, v197, v198, v199, v200, v201, v202, v203, v204, v205, v206, v207, v208, v209, v210, v211, v212, v213, v214, v215, v216, v217, v218, v219, v220, v221, v222, v223, v224, v225, v226, v227, v228, v229, v230, v231, v232, v233, v234, v235, v236, v237, v238, v239, v240, v241, v242, v243, v244, v245, v246, v247, v248, v249, v250, v251, v252, v253, v254, v255, v256, v257, v258, v259, v260, v261, v262, v263, v264, v265, v266, v267, v268, v269, v270, v271, v272, v273, v274, v275, v276, v277, v278, v279, v280, v281, v282, v283, v284, v285, v286, v287, v288, v289, v290, v291, v292, v293, v294, v295, v296, v297, v298, v299, v300, v301, v302, v303, v304, v305, v306, v307, v308, v309, v310, v311, v312, v313, v314, v315, v316, v317, v318, v319, v320, v321, v322, v323, v324, v325, v326, v327, v328, v329, v330, v331, v332, v333, v334, v335, v336, v337], []⟩ wx := by
  unfold CrashQ at h
  apply h
  exact hk
noncomputable def crashCode2 : Code := ((Tryz.f3.body.bind (fromAt 59)).getD .skip)
set_option maxRecDepth 100000 in
set_option maxHeartbeats 16000000 in
theorem crash2 (w w1 : World) (p0 p1 p2 p3 : Value) (B b r a n : Nat) (L : LLog) (m : Int) (hok : L.Ok) (hlen : n = L.kept.length) (A1 : Option Addr) (c1 g2 c2 : Nat) (HC : Hid (KAt w B b (L.crash m) L.kept n A1 c1 (some ⟨g2, 0, none⟩) c2 w1)) (re : Nat) (hre : re = L.rest m)
    (hnum : ∀ k, k ≤ n → ∀ W, Below w1.heap.size w1 W → W.cell? ⟨g2, k, none⟩ = some (.int .i64 ((packBody (L.kept.take k)).length : Nat)))
    {u4 u5 u6 u7 u8 u9 u10 u11 u12 u13 u14 u15 u21 u22 u23 u24 u25 u26 u27 u28 u29 u30 u31 u32 u33 u34 u36 u37 u38 u39 u40 u41 u42 u43 u44 u45 u46 u47 u48 u49 u50 u51 u52 u53 u54 u55 u56 u57 u58 u59 u60 u61 u62 u63 u64 u65 u66 u67 u68 u69 u70 u71 u72 u73 u74 u75 u76 u77 u78 u79 u80 u81 u82 u83 u84 u85 u86 u87 u88 u89 u90 u91 u92 u93 u94 u95 u96 u97 u98 u99 u100 u101 u102 u103 u104 u105 u106 u107 u108 u109 u110 u111 u112 u113 u114 u115 u116 u117 u118 u119 u120 u121 u122 u123 u124 u125 u126 u127 u128 u129 u130 u131 u132 u133 u134 u135 u136 u137 u138 u139 u140 u141 u142 u143 u144 u145 u146 u147 u148 u149 u150 u151 u152 u153 u154 u155 u156 u157 u158 u159 u160 u161 u162 u163 u164 u165 u166 u167 u168 u169 u170 u171 u172 u173 u174 u175 u176 u177 u178 u179 u180 u181 u182 u183 u184 u185 u186 u187 u188 u189 u190 u191 u192 u193 u194 u195 u196 u197 u198 u199 u200 u201 u202 u203 u204 u205 u206 u207 u208 u209 u210 u211 u212 u213 u214 u215 u216 u217 u218 u219 u220 u221 u222 u223 u224 u225 u226 u227 u228 u229 u230 u231 u232 u233 u234 u235 u236 u237 u238 u239 u240 u241 u242 u243 u244 u245 u246 u247 u248 u249 u250 u251 u252 u253 u254 u255 u256 u257 u258 u259 u260 u261 u262 u263 u264 u265 u266 u267 u268 u269 u270 u271 u272 u273 u274 u275 u276 u277 u278 u279 u280 u281 u282 u283 u284 u285 u286 u287 u288 u289 u290 u291 u292 u293 u294 u295 u296 u297 u298 u299 u300 u301 u302 u303 u304 u305 u306 u307 u308 u309 u310 u311 u312 u313 u314 u315 u316 u317 u318 u319 u320 u321 u322 u323 u324 u325 u326 u327 u328 u329 u330 u331 u332 u333 u334 u335 u336 u337 : Value} (Q : Exit → Act → World → Prop) (hq : CrashQ w B b r a p0 p1 p2 p3 Q) :
    Code.wp Tryz.prog crashCode2 Q ⟨#[p0, p1, p2, p3, u4, u5, u6, u7, u8, u9, u10, u11, u12, u13, u14, u15, .pointer (some ⟨b, 0, none⟩), .slice A1 (n + 1) c1, .slice (some ⟨g2, 0, none⟩) (n + 1) c2, .int .i64 (a : Nat), .int .i64 (r : Nat), u21, u22, u23, u24, u25, u26, u27, u28, u29, u30, u31, u32, u33, u34, .int .i64 (re : Nat), u36, u37, u38, u39, u40, u41, u42, u43, u44, u45, u46, u47, u48, u49, u50, u51, u52, u53, u54, u55, u56, u57, u58, u59, u60, u61, u62, u63, u64, u65, u66, u67, u68, u69, u70, u71, u72, u73, u74, u75, u76, u77, u78, u79, u80, u81, u82, u83, u84, u85, u86, u87, u88, u89, u90, u91, u92, u93, u94, u95, u96, u97, u98, u99, u100, u101, u102, u103, u104, u105, u106, u107, u108, u109, u110, u111, u112, u113, u114, u115, u116, u117, u118, u119, u120, u121, u122, u123, u124, u125, u126, u127, u128, u129, u130, u131, u132, u133, u134, u135, u136, u137, u138, u139, u140, u141, u142, u143, u144, u145, u146, u147, u148, u149, u150, u151, u152, u153, u154, u155, u156, u157, u158, u159, u160, u161, u162, u163, u164, u165, u166, u167, u168, u169, u170, u171, u172, u173, u174, u175, u176, u177, u178, u179, u180, u181, u182, u183, u184, u185, u186, u187, u188, u189, u190, u191, u192, u193, u194, u195, u196, u197, u198, u199, u200, u201, u202, u203, u204, u205, u206, u207, u208, u209, u210, u211, u212, u213, u214, u215, u216, u217, u218, u219, u220, u221, u222, u223, u224, u225, u226, u227, u228, u229, u230, u231, u232, u233, u234, u235, u236, u237, u238, u239, u240, u241, u242, u243, u244, u245, u246, u247, u248, u249, u250, u251, u252, u253, u254, u255, u256, u257, u258, u259, u260, u261, u262, u263, u264, u265, u266, u267, u268, u269, u270, u271, u272, u273, u274, u275, u276, u277, u278, u279, u280, u281, u282, u283, u284, u285, u286, u287, u288, u289, u290, u291, u292, u293, u294, u295, u296, u297, u298, u299, u300, u301, u302, u303, u304, u305, u306, u307, u308, u309, u310, u311, u312, u313, u314, u315, u316, u317, u318, u319, u320, u321, u322, u323, u324, u325, u326, u327, u328, u329, u330, u331, u332, u333, u334, u335, u336, u337], []⟩ w1 := by
  have HOK := Lib.hid hok
  have HLEN := Lib.hid hlen
  have HRE := Lib.hid hre
  have HNUM := Lib.hid hnum
  have HQ := Lib.hid hq
  have HH : Hid True := trivial
  clear hok hlen hre hnum hq
  conv => arg 2; whnf
  dsimp only
  have hrn : re ≤ n := by rw [HRE.out, HLEN.out]; exact HOK.out.rest_le m
  obtain ⟨g3, p3, bd, S1, S2, D1, D2, e1, hc3, htw, hdc⟩ := HC.out.twin hrn (by rw [HRE.out]; exact HOK.out.crash_doc m)
  have hcap := HC.out.caps
  have HCUT : Hid (KAt w B b (L.crash m) (L.crash m).kept re A1 c1 (some ⟨g2, 0, none⟩) c2 w1) := HC.out.cut hrn (by rw [HRE.out]; exact HOK.out.crash_kept m)
  have hms := HOK.out.crash_m m
  rw [← HRE.out] at hms
  have HBY := Lib.hid (fun W hW => (HC.out.step (w' := W) hW).bytes)
  have HSF := Lib.hid (fun W hW => (HC.out.step (w' := W) hW).safe)
  obtain ⟨pk, hpk⟩ : ∃ pk, pk = (packBody (L.kept.take re)).length := ⟨_, rfl⟩
  rw [← hpk] at hms
  rw [hms.1] at HBY
  rw [hms.2] at HSF
  have HCK := Lib.hid (HNUM.out re hrn)
  rw [← hpk] at HCK
  subst e1
  have HC3 := Lib.hid hc3
  have HTW := Lib.hid htw
  have HDC := Lib.hid hdc
  have HDO := Lib.hid (HC.out.ok.doc_ok)
  have q0 : (0 : Int) ≤ (re : Int) := by omega
  have q1 : (re : Int) ≤ (n : Int) := by omega
  have q2 : (re : Int) < (n : Int) + 1 := by omega
  have q3 : (re : Int) + 1 ≤ (n : Int) + 1 := by omega
  have x1 : (re : Int) + 1 ≤ (c1 : Int) := by omega
  have x2 : (re : Int) + 1 ≤ (c2 : Int) := by omega
  have x3 : (c1 : Int) ≤ 9223372036854775807 := by omega
  have x4 : (c2 : Int) ≤ 9223372036854775807 := by omega
  have HBR : Hid (Below w1.heap.size w1 w1) := Below.refl _ _
  clear hc3 htw hdc hrn hms hpk hcap HNUM HOK HLEN HH HRE HC
  generalize L.crash m = L3 at *
  have HBO := Lib.hid (fun W hb => HTW.out.books HDO.out W hb)
  have HMA := Lib.hid (fun W hb => HTW.out.markss HDO.out W hb)
  have HKN := Lib.hid (fun W hb => HTW.out.knowns HDO.out W hb)
  have HCEL : Hid (∀ W, Below w1.heap.size w1 W → W.cell? ⟨g3, re, none⟩ = some (.pointer (some ⟨p3, 0, none⟩)) ∧ W.cell? ⟨p3, 0, none⟩ = some (.slice D2.a1 L3.doc.book.length D2.c1) ∧ W.cell? ⟨p3, 1, none⟩ = some (.slice D2.a2 L3.doc.marks.length D2.c2) ∧ W.cell? ⟨p3, 2, none⟩ = some (.slice D2.a3 L3.doc.known.length D2.c3)) := fun W hW => ⟨HC3.out W hW, (HTW.out.rcells W hW).1, (HTW.out.rcells W hW).2.1, (HTW.out.rcells W hW).2.2.1⟩
  obtain ⟨r0', r1, r2, r3⟩ := HCEL.out w1 HBR.out
  clear HC3
  go_upto_region 59 with (fail)
  go_cut [37] from 225 to 337 (fun v wx => v = .bool true ∧ Below w1.heap.size w1 wx)
  case first =>
    go_region_held3 (fun w' => w'.cell? ⟨g3, re, none⟩ = some (.pointer (some ⟨p3, 0, none⟩)) ∧ w'.cell? ⟨p3, 0, none⟩ = some (.slice D2.a1 L3.doc.book.length D2.c1) ∧ w'.cell? ⟨p3, 1, none⟩ = some (.slice D2.a2 L3.doc.marks.length D2.c2) ∧ w'.cell? ⟨p3, 2, none⟩ = some (.slice D2.a3 L3.doc.known.length D2.c3))
      (first | go_keep | (refine ⟨?_, ?_, ?_, ?_⟩ <;> assumption))
      (first
        | (go_at_call 13; refine (HDC.out _ (by first | exact HBR.out | exact below_drewN HBR.out _ | exact HBR.out.drew)).mono ?_; rintro e w6 ⟨rfl, hw⟩
           obtain rfl := hw.symm)
        | (go_at_call 23; refine (HBO.out _ (by first | exact HBR.out | exact below_drewN HBR.out _ | exact HBR.out.drew)).mono ?_; rintro e w6 ⟨V, c, rfl, hb6, hL⟩
           have HB6 := Lib.hid hb6
           have HL6 := Lib.hid (hL w6 (Below.refl _ _))
           clear r0' r1 r2 r3
           obtain ⟨r0', r1, r2, r3⟩ := HCEL.out w6 hb6
           clear hb6 hL)
        | (go_at_call 22; refine HL6.out.mono ?_; rintro e w7 ⟨rfl, hb7⟩
           have HBa := Lib.hid hb7
           clear r0' r1 r2 r3
           obtain ⟨r0', r1, r2, r3⟩ := HCEL.out w7 hb7
           clear hb7 HL6 HB6))
    all_goals
      go_wp2_with fail
      go_meet
      case rel => exact ⟨rfl, HBa.out⟩
  case rest =>
  obtain ⟨rfl, hb9⟩ := hcut
  clear HBR
  have HBR := Lib.hid hb9
  clear hb9 r0' r1 r2 r3
  obtain ⟨r0', r1, r2, r3⟩ := HCEL.out wc HBR.out
  go_upto_region 60 with (fail)
  go_cut [38] from 225 to 337 (fun v wx => v = .bool true ∧ Below w1.heap.size w1 wx)
  case first =>
    go_region_held3 (fun w' => w'.cell? ⟨g3, re, none⟩ = some (.pointer (some ⟨p3, 0, none⟩)) ∧ w'.cell? ⟨p3, 0, none⟩ = some (.slice D2.a1 L3.doc.book.length D2.c1) ∧ w'.cell? ⟨p3, 1, none⟩ = some (.slice D2.a2 L3.doc.marks.length D2.c2) ∧ w'.cell? ⟨p3, 2, none⟩ = some (.slice D2.a3 L3.doc.known.length D2.c3))
      (first | go_keep | (refine ⟨?_, ?_, ?_, ?_⟩ <;> assumption))
      (first
        | (go_at_call 13; refine (HDC.out _ (by first | exact HBR.out | exact below_drewN HBR.out _ | exact HBR.out.drew)).mono ?_; rintro e w6 ⟨rfl, hw⟩
           obtain rfl := hw.symm)
        | (go_at_call 25; refine (HMA.out _ (by first | exact HBR.out | exact below_drewN HBR.out _ | exact HBR.out.drew)).mono ?_; rintro e w6 ⟨V, c, rfl, hb6, hL⟩
           have HB6 := Lib.hid hb6
           have HL6 := Lib.hid (hL w6 (Below.refl _ _))
           clear r0' r1 r2 r3
           obtain ⟨r0', r1, r2, r3⟩ := HCEL.out w6 hb6
           clear hb6 hL)
        | (go_at_call 24; refine HL6.out.mono ?_; rintro e w7 ⟨rfl, hb7⟩
           have HBa := Lib.hid hb7
           clear r0' r1 r2 r3
           obtain ⟨r0', r1, r2, r3⟩ := HCEL.out w7 hb7
           clear hb7 HL6 HB6))
    all_goals
      go_wp2_with fail
      go_meet
      case rel => exact ⟨rfl, HBa.out⟩
  case rest =>
  obtain ⟨rfl, hb9⟩ := hcut
  clear HBR
  have HBR := Lib.hid hb9
  clear hb9 r0' r1 r2 r3
  obtain ⟨r0', r1, r2, r3⟩ := HCEL.out wc HBR.out
  go_upto_region 61 with (fail)
  go_cut [39] from 225 to 337 (fun v wx => v = .bool true ∧ Below w1.heap.size w1 wx)
  case first =>
    go_region_held3 (fun w' => w'.cell? ⟨g3, re, none⟩ = some (.pointer (some ⟨p3, 0, none⟩)) ∧ w'.cell? ⟨p3, 0, none⟩ = some (.slice D2.a1 L3.doc.book.length D2.c1) ∧ w'.cell? ⟨p3, 1, none⟩ = some (.slice D2.a2 L3.doc.marks.length D2.c2) ∧ w'.cell? ⟨p3, 2, none⟩ = some (.slice D2.a3 L3.doc.known.length D2.c3))
      (first | go_keep | (refine ⟨?_, ?_, ?_, ?_⟩ <;> assumption))
      (first
        | (go_at_call 13; refine (HDC.out _ (by first | exact HBR.out | exact below_drewN HBR.out _ | exact HBR.out.drew)).mono ?_; rintro e w6 ⟨rfl, hw⟩
           obtain rfl := hw.symm)
        | (go_at_call 27; refine (HKN.out _ (by first | exact HBR.out | exact below_drewN HBR.out _ | exact HBR.out.drew)).mono ?_; rintro e w6 ⟨V, c, rfl, hb6, hL⟩
           have HB6 := Lib.hid hb6
           have HL6 := Lib.hid (hL w6 (Below.refl _ _))
           clear r0' r1 r2 r3
           obtain ⟨r0', r1, r2, r3⟩ := HCEL.out w6 hb6
           clear hb6 hL)
        | (go_at_call 26; refine HL6.out.mono ?_; rintro e w7 ⟨rfl, hb7⟩
           have HBa := Lib.hid hb7
           clear r0' r1 r2 r3
           obtain ⟨r0', r1, r2, r3⟩ := HCEL.out w7 hb7
           clear hb7 HL6 HB6))
    all_goals
      go_wp2_with fail
      go_meet
      case rel => exact ⟨rfl, HBa.out⟩
  case rest =>
  obtain ⟨rfl, hb9⟩ := hcut
  clear HBR
  have HBR := Lib.hid hb9
  clear hb9 r0' r1 r2 r3
  obtain ⟨r0', r1, r2, r3⟩ := HCEL.out wc HBR.out
  have z0 := HCK.out _ HBR.out
  go_upto_region 62 with (fail)
  go_cut [329] from 225 to 337 (fun v wx => v = .bool false ∧ Below w1.heap.size w1 wx)
  case first =>
    go_region_held3 (fun w' => w'.cell? ⟨g2, re, none⟩ = some (.int .i64 (pk : Nat)))
      (first | go_keep | assumption)
      (first
        | (go_at_call 15; refine (HBY.out _ (by first | exact HBR.out | exact below_drewN HBR.out _ | exact HBR.out.drew)).mono ?_; rintro e w6 ⟨rfl, hw⟩
           obtain rfl := hw.symm)
        | (go_at_call 16; refine (HSF.out _ (by first | exact HBR.out | exact below_drewN HBR.out _ | exact HBR.out.drew)).mono ?_; rintro e w6 ⟨rfl, hw⟩
           obtain rfl := hw.symm))
    all_goals
      go_wp2_with fail
      go_meet
      case rel => exact ⟨rfl, by first | exact HBR.out | exact below_drewN HBR.out _ | exact HBR.out.drew⟩
  case rest =>
  obtain ⟨rfl, hb9⟩ := hcut
  have HK9 := Lib.hid (HCUT.out.step hb9)
  clear hb9 HCUT HTW HDC HDO HBR HBO HMA HKN HCEL HBY HSF HCK r0' r1 r2 r3 z0
  go_wp2_with fail
  exact HQ.out.use HK9
end lawLogKeepsCr
end Go.Proofs.YthfbjfocmnikaaaGreatDoor
/- leaflaw3.LogKeeps, a crash: what is left is the document of as many ops as are whole. Conditions: none of our own. -/
namespace Go.Proofs.YthfbjfocmnikaaaGreatDoor
open Go.RowKit
set_option linter.unusedVariables false
namespace lawLogKeepsCr
def KLeft (l : List LOp) (high : Int) (w0 : World) (v i : Value) (wr : World) : Prop := ∃ k left : Nat, v = .int .i64 (left : Nat) ∧ i = .int .i64 (k : Nat) ∧ k ≤ l.length + 1 ∧ Hid (LLog.Left l high k left) ∧ wr = w0
noncomputable def crashCode : Code := ((Tryz.f3.body.bind (fromAt 42)).getD .skip)
set_option maxRecDepth 100000 in
set_option maxHeartbeats 16000000 in
theorem crash (w w0 : World) {A : Option Addr} {cA : Nat} {ys : List OpAt}
    {B1 : Option Addr} {d1 : Nat} {sy : List Int} {B2 : Option Addr} {d2 : Nat} {fl : List Int} (B3 : Option Addr) (d3 : Nat) (kp : List Int) (hkp : Reads w w.heap.size 1 B3 kp.length (ints kp)) (hkr : ∀ x ∈ kp, -9223372036854775808 ≤ x ∧ x ≤ 9223372036854775807) (hnk : kp.length ≤ 9223372036854775807)
    (B b r a n : Nat) (L : LLog) (A1 : Option Addr) (c1 : Nat) (A2 : Option Addr) (c2 : Nat) (HK : Hid (KAt w B b L L.kept n A1 c1 A2 c2 w0))
    {u4 u5 u6 u7 u8 u9 u10 u11 u12 u13 u14 u15 u21 u22 u23 u24 u25 u26 u27 u28 u29 u30 u31 u32 u33 u34 u35 u36 u37 u38 u39 u40 u41 u42 u43 u44 u45 u46 u47 u48 u49 u50 u51 u52 u53 u54 u55 u56 u57 u58 u59 u60 u61 u62 u63 u64 u65 u66 u67 u68 u69 u70 u71 u72 u73 u74 u75 u76 u77 u78 u79 u80 u81 u82 u83 u84 u85 u86 u87 u88 u89 u90 u91 u92 u93 u94 u95 u96 u97 u98 u99 u100 u101 u102 u103 u104 u105 u106 u107 u108 u109 u110 u111 u112 u113 u114 u115 u116 u117 u118 u119 u120 u121 u122 u123 u124 u125 u126 u127 u128 u129 u130 u131 u132 u133 u134 u135 u136 u137 u138 u139 u140 u141 u142 u143 u144 u145 u146 u147 u148 u149 u150 u151 u152 u153 u154 u155 u156 u157 u158 u159 u160 u161 u162 u163 u164 u165 u166 u167 u168 u169 u170 u171 u172 u173 u174 u175 u176 u177 u178 u179 u180 u181 u182 u183 u184 u185 u186 u187 u188 u189 u190 u191 u192 u193 u194 u195 u196 u197 u198 u199 u200 u201 u202 u203 u204 u205 u206 u207 u208 u209 u210 u211 u212 u213 u214 u215 u216 u217 u218 u219 u220 u221 u222 u223 u224 u225 u226 u227 u228 u229 u230 u231 u232 u233 u234 u235 u236 u237 u238 u239 u240 u241 u242 u243 u244 u245 u246 u247 u248 u249 u250 u251 u252 u253 u254 u255 u256 u257 u258 u259 u260 u261 u262 u263 u264 u265 u266 u267 u268 u269 u270 u271 u272 u273 u274 u275 u276 u277 u278 u279 u280 u281 u282 u283 u284 u285 u286 u287 u288 u289 u290 u291 u292 u293 u294 u295 u296 u297 u298 u299 u300 u301 u302 u303 u304 u305 u306 u307 u308 u309 u310 u311 u312 u313 u314 u315 u316 u317 u318 u319 u320 u321 u322 u323 u324 u325 u326 u327 u328 u329 u330 u331 u332 u333 u334 u335 u336 u337 : Value} (Q : Exit → Act → World → Prop)
    (hq : CrashQ w B b r a (.slice A ys.length cA) (.slice B1 sy.length d1) (.slice B2 fl.length d2) (.slice B3 kp.length d3) Q) :
    Code.wp Tryz.prog crashCode Q ⟨#[.slice A ys.length cA, .slice B1 sy.length d1, .slice B2 fl.length d2, .slice B3 kp.length d3, u4, u5, u6, u7, u8, u9, u10, u11, u12, u13, u14, u15, .pointer (some ⟨b, 0, none⟩), .slice A1 (n + 1) c1, .slice A2 (n + 1) c2, .int .i64 (a : Nat), .int .i64 (r : Nat), u21, u22, u23, u24, u25, u26, u27, u28, u29, u30, u31, u32, u33, u34, u35, u36, u37, u38, u39, u40, u41, u42, u43, u44, u45, u46, u47, u48, u49, u50, u51, u52, u53, u54, u55, u56, u57, u58, u59, u60, u61, u62, u63, u64, u65, u66, u67, u68, u69, u70, u71, u72, u73, u74, u75, u76, u77, u78, u79, u80, u81, u82, u83, u84, u85, u86, u87, u88, u89, u90, u91, u92, u93, u94, u95, u96, u97, u98, u99, u100, u101, u102, u103, u104, u105, u106, u107, u108, u109, u110, u111, u112, u113, u114, u115, u116, u117, u118, u119, u120, u121, u122, u123, u124, u125, u126, u127, u128, u129, u130, u131, u132, u133, u134, u135, u136, u137, u138, u139, u140, u141, u142, u143, u144, u145, u146, u147, u148, u149, u150, u151, u152, u153, u154, u155, u156, u157, u158, u159, u160, u161, u162, u163, u164, u165, u166, u167, u168, u169, u170, u171, u172, u173, u174, u175, u176, u177, u178, u179, u180, u181, u182, u183, u184, u185, u186, u187, u188, u189, u190, u191, u192, u193, u194, u195, u196, u197, u198, u199, u200, u201, u202, u203, u204, u205, u206, u207, u208, u209, u210, u211, u212, u213, u214, u215, u216, u217, u218, u219, u220, u221, u222, u223, u224, u225, u226, u227, u228, u229, u230, u231, u232, u233, u234, u235, u236, u237, u238, u239, u240, u241, u242, u243, u244, u245, u246, u247, u248, u249, u250, u251, u252, u253, u254, u255, u256, u257, u258, u259, u260, u261, u262, u263, u264, u265, u266, u267, u268, u269, u270, u271, u272, u273, u274, u275, u276, u277, u278, u279, u280, u281, u282, u283, u284, u285, u286, u287, u288, u289, u290, u291, u292, u293, u294, u295, u296, u297, u298, u299, u300, u301, u302, u303, u304, u305, u306, u307, u308, u309, u310, u311, u312, u313, u314, u315, u316, u317, u318, u319, u320, u321, u322, u323, u324, u325, u326, u327, u328, u329, u330, u331, u332, u333, u334, u335, u336, u337], []⟩ w0 := by
  have HKP := Lib.hid hkp
  have HKR := Lib.hid hkr
  have HQ := Lib.hid hq
  have r0 : (0 : Int) ≤ (r : Int) := by omega
  clear hkp hkr hq
  conv => arg 2; whnf
  go_upto_if 228 with (fail)
  go_cut [31] from 225 to 337 (fun v wx => ∃ m : Int, v = .int .i64 m ∧ (-9223372036854775808 ≤ m ∧ m ≤ 9223372036854775807) ∧ wx = w0)
  case first =>
    by_cases hf : r < kp.length
    · have k3 : (r : Int) < (kp.length : Int) := by omega
      have HX := Lib.hid (HKR.out _ (List.getElem_mem hf))
      obtain ⟨ad, hA, _, hc⟩ := (HKP.out.below HK.out.below).int hf
      subst hA
      generalize kp[r] = v at *
      clear hf
      go_wp2_with fail
      go_meet
      case rel => exact ⟨v, rfl, HX.out, rfl⟩
    · have k3 : ¬ (r : Int) < (kp.length : Int) := by omega
      clear hf
      go_wp2_with fail
      go_meet
      case rel => exact ⟨0, rfl, by decide, rfl⟩
  case rest =>
  obtain ⟨m, rfl, hm, hw⟩ := hcut
  obtain rfl := hw.symm
  clear hw
  obtain ⟨hm0, hm1⟩ := hm
  have HBY := Lib.hid HK.out.bytes
  have HSF := Lib.hid HK.out.safe
  have HCR := Lib.hid (HK.out.crash m hm0 hm1)
  have HOK := Lib.hid HK.out.ok
  have HLEN := Lib.hid HK.out.len
  have HHI := Lib.hid (HK.out.ok.high_is m)
  obtain ⟨mm, hmm⟩ : ∃ mm, mm = L.m := ⟨_, rfl⟩
  obtain ⟨ss, hss⟩ : ∃ ss, ss = L.safe := ⟨_, rfl⟩
  obtain ⟨hi, hhi⟩ : ∃ hi, hi = L.high m := ⟨_, rfl⟩
  rw [← hmm] at HBY
  rw [← hss] at HSF
  rw [← hmm, ← hss, ← hhi] at HHI
  have m1 : mm ≤ 56400 := by rw [hmm]; exact HOK.out.m_small
  have s1 : ss ≤ mm := by rw [hmm, hss]; exact HOK.out.safe
  have HH := Lib.hid hhi
  have n4 : (n : Int) ≤ 400 := by have := HLEN.out; have := HOK.out.kept_few; omega
  have n0 : (0 : Int) ≤ (n : Int) := by omega
  clear hmm hss hhi
  go_wp2_with fail
  refine HBY.out.mono ?_
  rintro e w1 ⟨rfl, hw⟩
  obtain rfl := hw.symm
  clear hw HBY
  go_wp2_with fail
  refine HSF.out.mono ?_
  rintro e w1 ⟨rfl, hw⟩
  obtain rfl := hw.symm
  clear hw HSF
  go_wp2_with fail
  refine HCR.out.mono ?_
  rintro e w1 ⟨rfl, h1⟩
  have HC := Lib.hid h1
  clear h1 HCR HK
  have mi : (mm : Int) ≤ 56400 := by omega
  have si : (ss : Int) ≤ (mm : Int) := by omega
  have si0 : (0 : Int) ≤ (ss : Int) := by omega
  obtain ⟨df, hdf⟩ : ∃ df : Nat, (df : Int) = (mm : Int) - (ss : Int) := ⟨mm - ss, by omega⟩
  have dw : IntKind.i64.wrap ((mm : Int) - (ss : Int)) = (df : Int) := by rw [IntWalk.i64_in _ (by omega)]; omega
  have HDF := Lib.hid hdf
  clear hdf
  go_upto_region 49 with (fail)
  go_cut [249] from 225 to 337 (fun v wx => v = .bool (decide (0 < m) && decide (m < (df : Int))) ∧ wx = w1)
  case first =>
    by_cases h0 : 0 < m
    · have q1 : m > 0 := h0
      by_cases h2 : m < (df : Int)
      · go_wp2_with fail
        go_meet
        case rel => exact ⟨by simp [h0, h2], rfl⟩
      · go_wp2_with fail
        go_meet
        case rel => exact ⟨by have hx : ¬ m < (df : Int) := by omega
                              simp [hx], rfl⟩
    · have q1 : ¬ m > 0 := h0
      go_wp2_with fail
      go_meet
      case rel => exact ⟨by have hx : ¬ 0 < m := by omega
                            simp [hx], rfl⟩
  case rest =>
  obtain ⟨rfl, hw⟩ := hcut
  obtain rfl := hw.symm
  clear hw
  generalize hbb : (decide (0 < m) && decide (m < (df : Int))) = bb
  have HBB := Lib.hid hbb
  clear hbb
  go_upto_if 249 with (fail)
  go_cut [34] from 225 to 337 (fun v wx => v = .int .i64 (hi : Nat) ∧ wx = w1)
  case first =>
    have hhi := HHI.out
    have hdf := HDF.out
    cases bb with
    | true =>
      have hx : 0 < m ∧ m < (df : Int) := by have := HBB.out; simpa using this
      have e1 : (hi : Int) = (ss : Int) + m := by rw [hhi, if_pos hx.1, if_pos (by omega)]
      have e2 : IntKind.i64.wrap ((ss : Int) + m) = (hi : Int) := by rw [IntWalk.i64_in _ (by omega)]; omega
      have E1 := Lib.hid e1
      have b1 : (ss : Int) + m ≤ 56400 := by omega
      have b0 : (0 : Int) ≤ m := by omega
      have b2 : m ≤ 56400 := by omega
      clear hhi hdf e1 hx
      go_wp2_with fail
      go_meet
      case rel => exact ⟨by first | rfl | (rw [E1.out]), rfl⟩
    | false =>
      have hx : ¬ (0 < m ∧ m < (df : Int)) := fun hh => by have := HBB.out; simp [hh.1, hh.2] at this
      by_cases h0 : 0 < m
      · have q1 : m > 0 := h0
        have e1 : (hi : Int) = (mm : Int) := by rw [hhi, if_pos h0, if_neg (by omega)]
        have E1 := Lib.hid e1
        clear hhi hdf e1 hx
        go_wp2_with fail
        go_meet
        case rel => exact ⟨by rw [E1.out], rfl⟩
      · have q1 : ¬ m > 0 := h0
        have e1 : (hi : Int) = (ss : Int) := by rw [hhi, if_neg h0]
        have E1 := Lib.hid e1
        clear hhi hdf e1 hx
        go_wp2_with fail
        go_meet
        case rel => exact ⟨by rw [E1.out], rfl⟩
  case rest =>
  obtain ⟨rfl, hw⟩ := hcut
  obtain rfl := hw.symm
  clear hw HHI HDF dw HBB
  obtain ⟨g2, e2, hnum⟩ : ∃ g2, A2 = some ⟨g2, 0, none⟩ ∧ ∀ k, k ≤ n → ∀ W, Below w1.heap.size w1 W → W.cell? ⟨g2, k, none⟩ = some (.int .i64 ((packBody (L.kept.take k)).length : Nat)) := by
    obtain ⟨g2, e2, _⟩ := HC.out.num (Nat.zero_le n)
    refine ⟨g2, e2, fun k hk => ?_⟩
    obtain ⟨g3, e3, h3⟩ := HC.out.num hk
    rw [e2] at e3
    injection e3 with e3
    injection e3 with e3
    subst e3
    exact h3
  subst e2
  have HNUM := Lib.hid hnum
  clear hnum
  have hi0 : (0 : Int) ≤ (hi : Int) := by omega
  obtain ⟨re, hre⟩ : ∃ re, re = L.rest m := ⟨_, rfl⟩
  have HRE := Lib.hid hre
  clear hre
  go_upto_block 4 with (fail)
  go_cut [35, 36] from 225 to 337 (fun v _ wx => v = .int .i64 (re : Nat) ∧ wx = w1)
  case first =>
    go_wp2_with fail
    go_loopw [35, 36] (fun v i wr => KLeft L.kept (hi : Nat) w1 v i wr) (fun _ i _ => (n + 1) - (intOf i).toNat)
    case atStart => exact ⟨0, 0, rfl, rfl, Nat.zero_le _, LLog.Left.zero _ (by omega), rfl⟩
    case round =>
      obtain ⟨k, left, rfl, rfl, hk, HL, hw⟩ := hrel
      obtain rfl := hw.symm
      clear hw
      have hln := HLEN.out
      by_cases hkn : k < n + 1
      · have k1 : (k : Int) < (n : Int) + 1 := by omega
        have k0 : (0 : Int) ≤ (k : Int) := by omega
        have hkl : k ≤ L.kept.length := by omega
        have HKL := Lib.hid hkl
        have c0 := HNUM.out k (by omega) w1 (Below.refl _ _)
        obtain ⟨pk, hpk⟩ : ∃ pk, pk = (packBody (L.kept.take k)).length := ⟨_, rfl⟩
        rw [← hpk] at c0
        have HPK := Lib.hid hpk
        have HKN := Lib.hid hkn
        clear hpk hkl hkn hk hln
        by_cases hm : (pk : Int) ≤ (hi : Int)
        · have HM := Lib.hid hm
          go_wp2_with fail
          go_roundw
          case rel => exact ⟨k + 1, k, rfl, by go_num, by have := HKL.out; omega, HL.out.yes HKL.out (by rw [← HPK.out]; exact HM.out), rfl⟩
          case measure => have := HKN.out; simp [intOf]; omega
        · have HM := Lib.hid hm
          go_wp2_with fail
          go_roundw
          case rel => exact ⟨k + 1, left, rfl, by go_num, by have := HKL.out; omega, HL.out.no (by rw [← HPK.out]; exact HM.out), rfl⟩
          case measure => have := HKN.out; simp [intOf]; omega
      · have k1 : ¬ (k : Int) < (n : Int) + 1 := by omega
        have hke : k = L.kept.length + 1 := by omega
        have HLE : Hid (left = re) := by show _ = _; rw [HRE.out]; subst hke; rw [HH.out] at HL; exact HOK.out.left_is HL.out
        clear hke hkn hk hln
        go_wp2_with fail
        go_meet
        case rel => exact ⟨by rw [HLE.out], rfl⟩
  case rest =>
  obtain ⟨rfl, hw⟩ := hcut
  obtain rfl := hw.symm
  clear hw
  rename_i hK
  exact hK _ _ (crash2 w w1 _ _ _ _ B b r a n L m HOK.out HLEN.out A1 c1 g2 c2 HC re HRE.out HNUM.out _ HQ.out)
end lawLogKeepsCr
end Go.Proofs.YthfbjfocmnikaaaGreatDoor
/- leaflaw3.LogKeeps, one op: to a copy of the reference's document, and to the log. Conditions: none of our own. -/
namespace Go.Proofs.YthfbjfocmnikaaaGreatDoor
open Go.RowKit
set_option linter.unusedVariables false
namespace lawLogKeeps
theorem elemDP : Elem Tryz.prog 43 41 1 8 := Elem.mk_ (z := .pointer none) Tryz.underlying43 (by kernel_rfl) rfl (by decide)
/-- An op of the row, and what is done with it. -/
structure OpHere (w : World) (B b : Nat) (A : Option Addr) (a : Nat) (o : LOp) (ad : Addr) (who nn what : Int) (p : ByteArray) (letter : Int) (ya : Option Addr) (sl yc : Nat) : Prop where
  at_ : A = some ad
  cells : ∀ W, Below w.heap.size w W → W.cell? (ad.add (a * 6)) = some (.int .i64 who) ∧ W.cell? ⟨(ad.add (a * 6)).block, (ad.add (a * 6)).off + 1, none⟩ = some (.int .i64 nn) ∧ W.cell? ⟨(ad.add (a * 6)).block, (ad.add (a * 6)).off + 2, none⟩ = some (.int .i64 what) ∧
    W.cell? ⟨(ad.add (a * 6)).block, (ad.add (a * 6)).off + 3, none⟩ = some (.string p) ∧ W.cell? ⟨(ad.add (a * 6)).block, (ad.add (a * 6)).off + 4, none⟩ = some (.int .i64 letter) ∧ W.cell? ⟨(ad.add (a * 6)).block, (ad.add (a * 6)).off + 5, none⟩ = some (.slice ya sl yc)
  apply : ∀ {L l n A1 c1 A2 c2 q st W}, KTwo w B b L l n A1 c1 A2 c2 q st W → st.Ok → Says st.ops st → Calls Tryz.prog 20 #[.pointer (some ⟨q, 0, none⟩), .agg #[.int .i64 who, .int .i64 nn, .int .i64 what, .string p, .int .i64 letter, .slice ya sl yc]] W
    (fun e w' => e = .returned (.tuple #[.bool (st.applyB o), .int .i64 (st.applyE o)]) ∧ KTwo w B b L l n A1 c1 A2 c2 q (st.apply o) w')
  put : ∀ {L l n A1 c1 A2 c2 q st W}, KTwo w B b L l n A1 c1 A2 c2 q st W → Calls Tryz.prog 10 #[.pointer (some ⟨b, 0, none⟩), .agg #[.int .i64 who, .int .i64 nn, .int .i64 what, .string p, .int .i64 letter, .slice ya sl yc]] W
    (fun e w' => e = .returned (.tuple #[.bool (L.putB o), errV (L.putE o)]) ∧ KTwo w B b (L.put o) l n A1 c1 A2 c2 q st w')
theorem op_here {w : World} {A : Option Addr} {ys : List OpAt} (hr : Reads w w.heap.size 6 A ys.length (ocells ys)) (hg : ∀ y ∈ ys, y.Good w) {a : Nat} (ha : a < ys.length) (B b : Nat) :
    ∃ o ad who nn what p letter ya sl yc, OpHere w B b A a o ad who nn what p letter ya sl yc := by
  obtain ⟨ad, rfl, _⟩ := hr.op ha
  have hG := hg _ (List.getElem_mem ha)
  have hps := hG.2.1
  unfold maxLen at hps
  refine ⟨ys[a].op, ad, ys[a].op.dot.who, ys[a].op.dot.n, ys[a].op.what, ys[a].op.place, ys[a].op.letter, ys[a].at_, ys[a].op.seen.length, ys[a].cap, rfl, fun W hW => ?_, fun h ok hs => ?_, fun h => ?_⟩
  · obtain ⟨ad', e', _, hh⟩ := (hr.below hW).op ha
    injection e' with e'
    subst e'
    exact hh
  · exact h.apply ok hs ys[a].op ys[a].at_ ys[a].cap hps hG.1
  · exact h.put ys[a].op ys[a].at_ ys[a].cap hps hG.1
/-- Where the code stands at region n, inside loops too. -/
def headAt (n : Nat) : Code → Bool
  | .region k _ _ => k == n
  | .seq a _ => headAt n a
  | _ => false
def fromAt (n : Nat) : Code → Option Code
  | .seq a b => if headAt n a then some (.seq a b) else match fromAt n a with
    | some c => some c
    | none => fromAt n b
  | .block _ c => fromAt n c
  | .loop c => fromAt n c
  | .scope c => fromAt n c
  | _ => none
/-- What a round leaves, whatever its scratch holds. -/
def InnerQ (w : World) (B b r k a : Nat) (p0 p1 p2 p3 : Value) (Q : Exit → Act → World → Prop) : Prop :=
  ∀ (n3 : Nat) (L3 : LLog) (A3 : Option Addr) (c3 : Nat) (A4 : Option Addr) (c4 : Nat) (wx : World) (v4 v5 v6 v7 v8 v9 v10 v11 v12 v13 v14 v15 v22 v23 v24 v25 v26 v27 v28 v29 v30 v31 v32 v33 v34 v35 v36 v37 v38 v39 v40 v41 v42 v43 v44 v45 v46 v47 v48 v49 v50 v51 v52 v53 v54 v55 v56 v57 v58 v59 v60 v61 v62 v63 v64 v65 v66 v67 v68 v69 v70 v71 v72 v73 v74 v75 v76 v77 v78 v79 v80 v81 v82 v83 v84 v85 v86 v87 v88 v89 v90 v91 v92 v93 v94 v95 v96 v97 v98 v99 v100 v101 v102 v103 v104 v105 v106 v107 v108 v109 v110 v111 v112 v113 v114 v115 v116 v117 v118 v119 v120 v121 v122 v123 v124 v125 v126 v127 v128 v129 v130 v131 v132 v133 v134 v135 v136 v137 v138 v139 v140 v141 v142 v143 v144 v145 v146 v147 v148 v149 v150 v151 v152 v153 v154 v155 v156 v157 v158 v159 v160 v161 v162 v163 v164 v165 v166 v167 v168 v169 v170 v171 v172 v173 v174 v175 v176 v177 v178 v179 v180 v181 v182 v183 v184 v185 v186 v187 v188 v189 v190 v191 v192 v193 v194 v195 v196 v197 v198 v199 v200 v201 v202 v203 v204 v205 v206 v207 v208 v209 v210 v211 v212 v213 v214 v215 v216 v217 v218 v219 v220 v221 v222 v223 v224 v225 v226 v227 v228 v229 v230 v231 v232 v233 v234 v235 v236 v237 v238 v239 v240 v241 v242 v243 v244 v245 v246 v247 v248 v249 v250 v251 v252 v253 v254 v255 v256 v257 v258 v259 v260 v261 v262 v263 v264 v265 v266 v267 v268 v269 v270 v271 v272 v273 v274 v275 v276 v277 v278 v279 v280 v281 v282 v283 v284 v285 v286 v287 v288 v289 v290 v291 v292 v293 v294 v295 v296 v297 v298 v299 v300 v301 v302 v303 v304 v305 v306 v307 v308 v309 v310 v311 v312 v313 v314 v315 v316 v317 v318 v319 v320 v321 v322 v323 v324 v325 v326 v327 v328 v329 v330 v331 v332 v333 v334 v335 v336 v337 : Value), Hid (KAt w B b L3 L3.kept n3 A3 c3 A4 c4 wx) → Q .normal ⟨#[p0, p1, p2, p3, v4, v5, v6, v7, v8, v9, v10, v11, v12, v13, v14, v15, .pointer (some ⟨b, 0, none⟩), .slice A3 (n3 + 1) c3, .slice A4 (n3 + 1) c4, .int .i64 ((a : Nat) + 1), .int .i64 (r : Nat), .int .i64 (k : Nat), v22, v23, v24, v25, v26, v27, v28, v29, v30, v31, v32, v33, v34, v35, v36, v37, v38, v39, v40, v41, v42, v43, v44, v45, v46, v47, v48, v49, v50, v51, v52, v53, v54, v55, v56, v57, v58, v59, v60, v61, v62, v63, v64, v65, v66, v67, v68, v69, v70, v71, v72, v73, v74, v75, v76, v77, v78, v79, v80, v81, v82, v83, v84, v85, v86, v87, v88, v89, v90, v91, v92, v93, v94, v95, v96, v97, v98, v99, v100, v101, v102, v103, v104, v105, v106, v107, v108, v109, v110, v111, v112, v113, v114, v115, v116, v117, v118, v119, v120, v121, v122, v123, v124, v125, v126, v127, v128, v129, v130, v131, v132, v133, v134, v135, v136, v137, v138, v139, v140, v141, v142, v143, v144, v145, v146, v147, v148, v149, v150, v151, v152, v153, v154, v155, v156, v157, v158, v159, v160, v161, v162, v163, v164, v165, v166, v167, v168, v169, v170, v171, v172, v173, v174, v175, v176, v177, v178, v179, v180, v181, v182, v183, v184, v185, v186, v187, v188, v189, v190, v191, v192, v193, v194, v195, v196, v197, v198, v199, v200, v201, v202, v203, v204, v205, v206, v207, v208, v209, v210, v211, v212, v213, v214, v215, v216, v217, v218, v219, v220, v221, v222, v223, v224, v225, v226, v227, v228, v229, v230, v231, v232, v233, v234, v235, v236, v237, v238, v239, v240, v241, v242, v243, v244, v245, v246, v247, v248, v249, v250, v251, v252, v253, v254, v255, v256, v257, v258, v259, v260, v261, v262, v263, v264, v265, v266, v267, v268, v269, v270, v271, v272, v273, v274, v275, v276, v277, v278, v279, v280, v281, v282, v283, v284, v285, v286, v287, v288, v289, v290, v291, v292, v293, v294, v295, v296, v297, v298, v299, v300, v301, v302, v303, v304, v305, v306, v307, v308, v309, v310, v311, v312, v313, v314, v315, v316, v317, v318, v319, v320, v321, v322, v323, v324, v325, v326, v327, v328, v329, v330, v331, v332, v333, v334, v335, v336, v337], []⟩ wx
theorem InnerQ.use {w : World} {B b r k a : Nat} {p0 p1 p2 p3 : Value} {Q : Exit → Act → World → Prop} (h : InnerQ w B b r k a p0 p1 p2 p3 Q) {n3 : Nat} {L3 : LLog} {A3 : Option Addr} {c3 : Nat} {A4 : Option Addr} {c4 : Nat} {wx : World} {v4 v5 v6 v7 v8 v9 v10 v11 v12 v13 v14 v15 v22 v23 v24 v25 v26 v27 v28 v29 v30 v31 v32 v33 v34 v35 v36 v37 v38 v39 v40 v41 v42 v43 v44 v45 v46 v47 v48 v49 v50 v51 v52 v53 v54 v55 v56 v57 v58 v59 v60 v61 v62 v63 v64 v65 v66 v67 v68 v69 v70 v71 v72 v73 v74 v75 v76 v77 v78 v79 v80 v81 v82 v83 v84 v85 v86 v87 v88 v89 v90 v91 v92 v93 v94 v95 v96 v97 v98 v99 v100 v101 v102 v103 v104 v105 v106 v107 v108 v109 v110 v111 v112 v113 v114 v115 v116 v117 v118 v119 v120 v121 v122 v123 v124 v125 v126 v127 v128 v129 v130 v131 v132 v133 v134 v135 v136 v137 v138 v139 v140 v141 v142 v143 v144 v145 v146 v147 v148 v149 v150 v151 v152 v153 v154 v155 v156 v157 v158 v159 v160 v161 v162 v163 v164 v165 v166 v167 v168 v169 v170 v171 v172 v173 v174 v175 v176 v177 v178 v179 v180 v181 v182 v183 v184 v185 v186 v187 v188 v189 v190 v191 v192 v193 v194 v195 v196 v197 v198 v199 v200 v201 v202 v203 v204 v205 v206 v207 v208 v209 v210 v211 v212 v213 v214 v215 v216 v217 v218 v219 v220 v221 v222 v223 v224 v225 v226 v227 v228 v229 v230 v231 v232 v233 v234 v235 v236 v237 v238 v239 v240 v241 v242 v243 v244 v245 v246 v247 v248 v249 v250 v251 v252 v253 v254 v255 v256 v257 v258 v259 v260 v261 v262 v263 v264 v265 v266 v267 v268 v269 v270 v271 v272 v273 v274 v275 v276 v277 v278 v279 v280 v281 v282 v283 v284 v285 v286 v287 v288 v289 v290 v291 v292 v293 v294 v295 v296 v297 v298 v299 v300 v301 v302 v303 v304 v305 v306 v307 v308 v309 v310 v311 v312 v313 v314 v315 v316 v317 v318 v319 v320 v321 v322 v323 v324 v325 v326 v327 v328 v329 v330 v331 v332 v333 v334 v335 v336 v337 : Value} (hk : Hid (KAt w B b L3 L3.kept n3 A3 c3 A4 c4 wx)) : Q .normal ⟨#[p0, p1, p2, p3, v4, v5, v6, v7, v8, v9, v10, v11, v12, v13, v14, v15, .pointer (some ⟨b, 0, none⟩), .slice A3 (n3 + 1) c3, .slice A4 (n3 + 1) c4, .int .i64 ((a : Nat) + 1), .int .i64 (r : Nat), .int .i64 (k : Nat), v22, v23, v24, v25, v26, v27, v28, v29, v30, v31, v32, v33, v34, v35, v36, v37, v38, v39, v40, v41, v42, v43, v44, v45, v46, v47, v48, v49, v50, v51, v52, v53, v54, v55, v56, v57, v58, v59, v60, v61, v62, v63, v64, v65, v66, v67, v68, v69, v70, v71, v72, v73, v74, v75, v76, v77, v78, v79, v80, v81, v82, v83, v84, v85, v86, v87, v88, v89, v90, v91, v92, v93, v94, v95, v96, v97, v98, v99, v100, v101, v102, v103, v104, v105, v106, v107, v108, v109, v110, v111, v112, v113, v114, v115, v116, v117, v118, v119, v120, v121, v122, v123, v124, v125, v126, v127, v128, v129, v130, v131, v132, v133, v134, v135, v136, v137, v138, v139, v140, v141, v142, v143, v144, v145, v146, v147, v148, v149, v150, v151, v152, v153, v154, v155, v156, v157, v158, v159, v160, v161, v162, v163, v164, v165, v166, v167, v168, v169, v170, v171, v172, v173, v174, v175, v176, v177, v178, v179, v180, v181, v182, v183, v184, v185, v186, v187, v188, v189, v190, v191, v192, v193, v194, v195, v196, v197, v198, v199, v200, v201, v202, v203, v204, v205, v206, v207, v208, v209, v210, v211, v212, v213, v214, v215, v216, v217, v218, v219, v220, v221, v222, v223, v224, v225, v226, v227, v228, v229, v230, v231, v232, v233, v234, v235, v236, v237, v238, v239, v240, v241, v242, v243, v244, v245, v246, v247, v248, v249, v250, v251, v252, v253, v254, v255, v256, v257, v258, v259, v260, v261, v262, v263, v264, v265, v266, v267, v268, v269, v270, v271, v272, v273, v274, v275, v276, v277, v278, v279, v280, v281, v282, v283, v284, v285, v286, v287, v288, v289, v290, v291, v292, v293, v294, v295, v296, v297, v298, v299, v300, v301, v302, v303, v304, v305, v306, v307, v308, v309, v310, v311, v312, v313, v314, v315, v316, v317, v318, v319, v320, v321, v322, v323, v324, v325, v326, v327, v328, v329, v330, v331, v332, v333, v334, v335, v336, v337], []⟩ wx := by
  unfold InnerQ at h
  apply h
  exact hk
noncomputable def innerCode : Code := ((Tryz.f3.body.bind (fromAt 25)).getD .skip)
set_option maxRecDepth 100000 in
set_option maxHeartbeats 16000000 in
theorem inner (w wc : World) (hglob : Glob w) (A : Option Addr) (cA : Nat) (ys : List OpAt) (hr : Reads w w.heap.size 6 A ys.length (ocells ys)) (hg : ∀ y ∈ ys, y.Good w) (hnl : ys.length ≤ 9223372036854775807)
    {B1 : Option Addr} {d1 : Nat} {sy : List Int} {B2 : Option Addr} {d2 : Nat} {fl : List Int} {B3 : Option Addr} {d3 : Nat} {kp : List Int} (B b r k a n : Nat) (g2 : a < ys.length) (L : LLog) (A1 : Option Addr) (c1 : Nat) (A2 : Option Addr) (c2 : Nat) (HK : Hid (KAt w B b L L.kept n A1 c1 A2 c2 wc))
    {u4 u5 u6 u7 u8 u9 u10 u11 u12 u13 u14 u15 u22 u23 u24 u25 u26 u27 u28 u29 u30 u31 u32 u33 u34 u35 u36 u37 u38 u39 u40 u41 u42 u43 u44 u45 u46 u47 u48 u49 u50 u51 u52 u53 u54 u55 u56 u57 u58 u59 u60 u61 u62 u63 u64 u65 u66 u67 u68 u69 u70 u71 u72 u73 u74 u75 u76 u77 u78 u79 u80 u81 u82 u83 u84 u85 u86 u87 u88 u89 u90 u91 u92 u93 u94 u95 u96 u97 u98 u99 u100 u101 u102 u103 u104 u105 u106 u107 u108 u109 u110 u111 u112 u113 u114 u115 u116 u117 u118 u119 u120 u121 u122 u123 u124 u125 u126 u127 u128 u129 u130 u131 u132 u133 u134 u135 u136 u137 u138 u139 u140 u141 u142 u143 u144 u145 u146 u147 u148 u149 u150 u151 u152 u153 u154 u155 u156 u157 u158 u159 u160 u161 u162 u163 u164 u165 u166 u167 u168 u169 u170 u171 u172 u173 u174 u175 u176 u177 u178 u179 u180 u181 u182 u183 u184 u185 u186 u187 u188 u189 u190 u191 u192 u193 u194 u195 u196 u197 u198 u199 u200 u201 u202 u203 u204 u205 u206 u207 u208 u209 u210 u211 u212 u213 u214 u215 u216 u217 u218 u219 u220 u221 u222 u223 u224 u225 u226 u227 u228 u229 u230 u231 u232 u233 u234 u235 u236 u237 u238 u239 u240 u241 u242 u243 u244 u245 u246 u247 u248 u249 u250 u251 u252 u253 u254 u255 u256 u257 u258 u259 u260 u261 u262 u263 u264 u265 u266 u267 u268 u269 u270 u271 u272 u273 u274 u275 u276 u277 u278 u279 u280 u281 u282 u283 u284 u285 u286 u287 u288 u289 u290 u291 u292 u293 u294 u295 u296 u297 u298 u299 u300 u301 u302 u303 u304 u305 u306 u307 u308 u309 u310 u311 u312 u313 u314 u315 u316 u317 u318 u319 u320 u321 u322 u323 u324 u325 u326 u327 u328 u329 u330 u331 u332 u333 u334 u335 u336 u337 : Value} (Q : Exit → Act → World → Prop)
    (hq : InnerQ w B b r k a (.slice A ys.length cA) (.slice B1 sy.length d1) (.slice B2 fl.length d2) (.slice B3 kp.length d3) Q) :
    Code.wp Tryz.prog innerCode Q ⟨#[.slice A ys.length cA, .slice B1 sy.length d1, .slice B2 fl.length d2, .slice B3 kp.length d3, u4, u5, u6, u7, u8, u9, u10, u11, u12, u13, u14, u15, .pointer (some ⟨b, 0, none⟩), .slice A1 (n + 1) c1, .slice A2 (n + 1) c2, .int .i64 (a : Nat), .int .i64 (r : Nat), .int .i64 (k : Nat), u22, u23, u24, u25, u26, u27, u28, u29, u30, u31, u32, u33, u34, u35, u36, u37, u38, u39, u40, u41, u42, u43, u44, u45, u46, u47, u48, u49, u50, u51, u52, u53, u54, u55, u56, u57, u58, u59, u60, u61, u62, u63, u64, u65, u66, u67, u68, u69, u70, u71, u72, u73, u74, u75, u76, u77, u78, u79, u80, u81, u82, u83, u84, u85, u86, u87, u88, u89, u90, u91, u92, u93, u94, u95, u96, u97, u98, u99, u100, u101, u102, u103, u104, u105, u106, u107, u108, u109, u110, u111, u112, u113, u114, u115, u116, u117, u118, u119, u120, u121, u122, u123, u124, u125, u126, u127, u128, u129, u130, u131, u132, u133, u134, u135, u136, u137, u138, u139, u140, u141, u142, u143, u144, u145, u146, u147, u148, u149, u150, u151, u152, u153, u154, u155, u156, u157, u158, u159, u160, u161, u162, u163, u164, u165, u166, u167, u168, u169, u170, u171, u172, u173, u174, u175, u176, u177, u178, u179, u180, u181, u182, u183, u184, u185, u186, u187, u188, u189, u190, u191, u192, u193, u194, u195, u196, u197, u198, u199, u200, u201, u202, u203, u204, u205, u206, u207, u208, u209, u210, u211, u212, u213, u214, u215, u216, u217, u218, u219, u220, u221, u222, u223, u224, u225, u226, u227, u228, u229, u230, u231, u232, u233, u234, u235, u236, u237, u238, u239, u240, u241, u242, u243, u244, u245, u246, u247, u248, u249, u250, u251, u252, u253, u254, u255, u256, u257, u258, u259, u260, u261, u262, u263, u264, u265, u266, u267, u268, u269, u270, u271, u272, u273, u274, u275, u276, u277, u278, u279, u280, u281, u282, u283, u284, u285, u286, u287, u288, u289, u290, u291, u292, u293, u294, u295, u296, u297, u298, u299, u300, u301, u302, u303, u304, u305, u306, u307, u308, u309, u310, u311, u312, u313, u314, u315, u316, u317, u318, u319, u320, u321, u322, u323, u324, u325, u326, u327, u328, u329, u330, u331, u332, u333, u334, u335, u336, u337], []⟩ wc := by
  have HGL := Lib.hid hglob
  have HR := Lib.hid hr
  have HG := Lib.hid hg
  have HE0 : errV 0 = .nilIface := rfl
  have HER := Lib.hid (fun W k e (hb : Below w.heap.size w W) => error_any W k e (HGL.out.below hb (Nat.le_refl _)))
  have HQ := Lib.hid hq
  have k2 : (a : Int) < (ys.length : Int) := by omega
  have k0 : (0 : Int) ≤ (a : Int) := by omega
  clear hglob hr hg hq
  conv => arg 2; whnf
  obtain ⟨g, p, e1, hc, hcp⟩ := HK.out.last
  have HCP := Lib.hid hcp
  have c0 := hc _ (Below.refl _ _)
  obtain ⟨o, ad, who, nn, what, pl, letter, ya, sl, yc, hop⟩ := op_here HR.out HG.out g2 B b
  have HOP := Lib.hid hop
  have hA := hop.at_
  have HOK := Lib.hid (HK.out.ok)
  have HSAY := Lib.hid (LLog.says L)
  subst e1
  clear hc hcp hop
  subst hA
  have n0 : (0 : Int) ≤ (n : Int) := by omega
  have n4 : (n : Int) ≤ 400 := by have := HK.out.len; have := HK.out.ok.kept_few; omega
  go_wp2_with fail
  refine HCP.out.mono ?_
  rintro e w3 ⟨q, rfl, h3⟩
  have HT3 := Lib.hid h3
  have HBY := Lib.hid h3.bytes
  obtain ⟨m1, hm1⟩ : ∃ m1, m1 = L.m := ⟨_, rfl⟩
  rw [← hm1] at HBY
  have HM1 := Lib.hid hm1
  clear h3 HCP c0 hm1
  go_wp2_with fail
  refine HBY.out.mono ?_
  rintro e w4 ⟨rfl, hw⟩
  obtain rfl := hw.symm
  clear hw HBY
  have HAP := Lib.hid (HOP.out.apply HT3.out HOK.out.doc_ok HSAY.out)
  obtain ⟨is, his⟩ : ∃ is, is = L.doc.applyB o := ⟨_, rfl⟩
  obtain ⟨ke, hke⟩ : ∃ ke, ke = L.doc.applyE o := ⟨_, rfl⟩
  rw [← his, ← hke] at HAP
  have HIS := Lib.hid his
  have HKE := Lib.hid hke
  clear his hke
  obtain ⟨e0, e1, e2, e3, e4, e5⟩ := HOP.out.cells _ HT3.out.below
  go_wp2_with fail
  refine HAP.out.mono ?_
  rintro e w5 ⟨rfl, h5⟩
  have HT5 := Lib.hid h5
  have HPU := Lib.hid (HOP.out.put h5)
  obtain ⟨got, hgot⟩ : ∃ got, got = L.putB o := ⟨_, rfl⟩
  obtain ⟨E, hE⟩ : ∃ E, E = L.putE o := ⟨_, rfl⟩
  rw [← hgot, ← hE] at HPU
  have HGOT := Lib.hid hgot
  have HEE := Lib.hid hE
  clear h5 hgot hE HAP e0 e1 e2 e3 e4 e5
  obtain ⟨e0, e1, e2, e3, e4, e5⟩ := HOP.out.cells _ HT5.out.below
  go_wp2_with fail
  refine HPU.out.mono ?_
  rintro e w6 ⟨rfl, h6⟩
  have HT6 := Lib.hid h6
  have HR1 := Lib.hid (HER.out w6 E 6 h6.below)
  clear h6 HPU e0 e1 e2 e3 e4 e5 HT5 HT3
  go_wp2_with fail
  refine HR1.out.mono ?_
  rintro e w7 ⟨rfl, h7⟩
  have HT7 := Lib.hid (HT6.out.step h7)
  have HR2 := Lib.hid (HER.out w7 E ke HT7.out.below)
  clear h7 HR1 HT6
  go_wp2_with fail
  refine HR2.out.mono ?_
  rintro e w8 ⟨rfl, h8⟩
  have HT8 := Lib.hid (HT7.out.step h8)
  clear h8 HR2 HT7
  go_upto_region 32 with (fail)
  go_cut [190] from 113 to 224 (fun v wx => v = .bool false ∧ wx = w8)
  case first => 
    by_cases h6 : E = 6
    · have q1 : (E == 6) = true := by simpa using h6
      clear h6
      go_wp2_with fail
      go_meet
      case rel => exact ⟨rfl, rfl⟩
    · have q1 : (E == 6) = false := by simpa using h6
      obtain ⟨y1, y2⟩ := LLog.put_told (L := L) o (by rw [← HEE.out]; exact h6)
      have q2 : (E == ke) = true := by rw [HEE.out, HKE.out, y1]; simp
      have q3 : got = is := by rw [HGOT.out, HIS.out, y2]
      have HQ3 := Lib.hid q3
      clear h6 y1 y2 q3
      go_wp2_with fail
      go_meet
      case rel => exact ⟨by rw [HQ3.out]; simp, rfl⟩
  case rest =>
  obtain ⟨rfl, hw⟩ := hcut
  obtain rfl := hw.symm
  clear hw
  obtain ⟨T, hT⟩ : ∃ T : Bool, T = (decide (E = 0) && got) := ⟨_, rfl⟩
  have HT := Lib.hid hT
  clear hT
  go_upto_region 34 with (fail)
  go_cut [27, 195] from 113 to 224 (fun _ v wx => v = .bool T ∧ wx = w8)
  case first => 
    by_cases h0 : E = 0
    · have y : T = got := by rw [HT.out, decide_eq_true h0]; rfl
      have Y := Lib.hid y
      rw [show errV E = .nilIface by rw [h0]; rfl]
      clear h0 y
      go_wp2_with fail
      go_meet
      case rel => exact ⟨by rw [Y.out], rfl⟩
    · have y : T = false := by rw [HT.out, decide_eq_false h0]; rfl
      have Y := Lib.hid y
      rw [errV_ne h0]
      clear h0 y
      go_wp2_with fail
      go_meet
      case rel => exact ⟨by rw [Y.out], rfl⟩
  case rest =>
  obtain ⟨rfl, hw⟩ := hcut
  obtain rfl := hw.symm
  clear hw
  go_upto_if 195 with (fail)
  go_cut [17, 18] from 113 to 224 (fun d m wx => ∃ (n : Nat) (A1 : Option Addr) (c1 : Nat) (A2 : Option Addr) (c2 : Nat), d = .slice A1 (n + 1) c1 ∧ m = .slice A2 (n + 1) c2 ∧ Hid (KAt w B b (L.put o) (L.put o).kept n A1 c1 A2 c2 wx))
  case first => 
    cases T with
    | true =>
      have hh : E = 0 ∧ got = true := by have := HT.out; simpa using this.symm
      obtain ⟨y1, y2, y3, y4⟩ := HOK.out.put_took (o := o) (by rw [← HEE.out]; exact hh.1) (by rw [← HGOT.out]; exact hh.2)
      have HY1 := Lib.hid y1
      have HY3 : Hid (L.doc.apply o = LDoc.new.all (L.kept ++ [o])) := by show _ = _; rw [LDoc.all_app]; rfl
      have HBY := Lib.hid HT8.out.bytes
      obtain ⟨m2, hm2⟩ : ∃ m2, m2 = (L.put o).m := ⟨_, rfl⟩
      rw [← hm2] at HBY y4 y2
      rw [← HM1.out] at y2
      have q1 : ¬ (m2 : Int) < (m1 : Int) + 2 := by omega
      have HM2 := Lib.hid y4
      have q2 : m1 ≤ 1000000 := by rw [HM1.out]; have := HOK.out.m_small; omega
      have HMM := Lib.hid hm2
      clear hh y1 y2 y3 y4 hm2 HT
      go_wp2_with fail
      refine HBY.out.mono ?_
      rintro e w9 ⟨rfl, hw⟩
      obtain rfl := hw.symm
      clear hw HBY
      obtain ⟨hz, xs, hown, hnext⟩ := HT8.out.room
      have HZ := Lib.hid hz
      have HOWN := Lib.hid hown
      have HNX := Lib.hid hnext
      have hfew : n + 1 + 1 ≤ 1000000 := by have := HOK.out.kept_few; have := HK.out.len; omega
      have HFT := Lib.hid (Fits.of_small (bytes := 8) hfew (by decide))
      clear hz hown hnext hfew
      have HONE : Hid (OneCells [Value.pointer (some ⟨q, 0, none⟩)]) := fun u hu => by simp at hu; subst hu; rfl
      have HBS : Hid (B ≤ (w8.alloc (.cells #[.pointer (some ⟨q, 0, none⟩)] 41)).heap.size) := by show _ ≤ _; have := HZ.out; simp; omega
      go_upto_region 38 with (at_builtin; go_loud (refine wpList_app _ (.tmp 201) (.tmp 203) rfl rfl elemDP rfl rfl (HOWN.out.alloc _) (Reads.row w8 41 #[.pointer (some ⟨q, 0, none⟩)]) HONE.out HFT.out HBS.out ?_; intro A3 c3 w10 hO2 hL2 hX2))
      have HH := Lib.hid (HNX.out _ _ _ _ ((Below.refl _ _).alloc (Nat.le_refl _) _) hO2 hL2 hX2)
      clear hO2 hL2 hX2 HNX HOWN HZ HONE HBS
      have HBY := Lib.hid HH.out.bytes
      obtain ⟨hz, xs, hown, hnext⟩ := HH.out.room HY3.out HM2.out
      rw [← HMM.out] at HBY
      have HZ := Lib.hid hz
      have HOWN := Lib.hid hown
      have HNX := Lib.hid hnext
      clear hz hown hnext
      go_wp2_with fail
      refine HBY.out.mono ?_
      rintro e w11 ⟨rfl, hw⟩
      obtain rfl := hw.symm
      clear hw HBY
      have HBS : Hid (B ≤ (w10.alloc (.cells #[.int .i64 (m2 : Nat)] 3)).heap.size) := by show _ ≤ _; have := HZ.out; simp; omega
      have HONE : Hid (OneCells [Value.int .i64 (m2 : Nat)]) := fun u hu => by simp at hu; subst hu; rfl
      go_wp2_with (at_builtin; go_loud (refine wpList_app _ (.tmp 205) (.tmp 208) rfl rfl elemI rfl rfl (HOWN.out.alloc _) (Reads.row w10 3 #[.int .i64 (m2 : Nat)]) HONE.out HFT.out HBS.out ?_; intro A4 c4 w12 hO2 hL2 hX2))
      have HH2 := Lib.hid (HNX.out _ _ _ _ ((Below.refl _ _).alloc (Nat.le_refl _) _) hO2 hL2 hX2)
      clear hO2 hL2 hX2 HNX HOWN HZ
      go_meet
      case rel => exact ⟨n + 1, A3, c3, A4, c4, rfl, rfl, by rw [HY1.out]; exact HH2⟩
    | false =>
      have hh : ¬ (E = 0 ∧ got = true) := by have := HT.out; simpa using this.symm
      have y1 := HOK.out.put_not (o := o) (by rw [← HEE.out, ← HGOT.out]; exact hh)
      have HK8 : Hid (KAt w B b (L.put o) (L.put o).kept n (some ⟨g, 0, none⟩) c1 A2 c2 w8) := by show KAt _ _ _ _ _ _ _ _ _ _ _; rw [y1]; exact HT8.out.drop
      clear hh y1
      go_wp2_with fail
      go_meet
      case rel => exact ⟨n, _, _, _, _, rfl, rfl, HK8⟩
  case rest =>
  obtain ⟨n3, A3, c3, A4, c4, rfl, rfl, HK3⟩ := hcut
  clear HT8 HT HEE HGOT HIS HKE HM1 HK HOP HOK HSAY
  generalize L.put o = L3 at *
  obtain ⟨g3, p3, bd, S1, S2, D1, D2, e1, hc3, htw, hdc⟩ := HK3.out.twin (Nat.le_refl _) (by rw [HK3.out.len, List.take_length]; rfl)
  subst e1
  have HC3 := Lib.hid hc3
  have HTW := Lib.hid htw
  have HDC := Lib.hid hdc
  have HDO := Lib.hid (HK3.out.ok.doc_ok)
  have n3p : (0 : Int) ≤ (n3 : Int) := by omega
  have n3w : IntKind.i64.wrap (n3 : Int) = (n3 : Int) := IntWalk.i64_in _ (by have := HK3.out.len; have := HK3.out.ok.kept_few; omega)
  have n34 : (n3 : Int) ≤ 400 := by have := HK3.out.len; have := HK3.out.ok.kept_few; omega
  have HBR : Hid (Below wc.heap.size wc wc) := Below.refl _ _
  clear hc3 htw hdc
  have HBO := Lib.hid (fun W hb => HTW.out.books HDO.out W hb)
  have HCEL : Hid (∀ W, Below wc.heap.size wc W → W.cell? ⟨g3, n3, none⟩ = some (.pointer (some ⟨p3, 0, none⟩)) ∧ W.cell? ⟨p3, 0, none⟩ = some (.slice D2.a1 L3.doc.book.length D2.c1)) := fun W hW => ⟨HC3.out W hW, (HTW.out.rcells W hW).1⟩
  obtain ⟨r0, r1⟩ := HCEL.out wc HBR.out
  clear HC3
  go_upto_region 39 with (fail)
  go_cut [30] from 113 to 224 (fun v wx => v = .bool true ∧ Below wc.heap.size wc wx)
  case first => 
    go_region_held3 (fun w' => w'.cell? ⟨g3, n3, none⟩ = some (.pointer (some ⟨p3, 0, none⟩)) ∧ w'.cell? ⟨p3, 0, none⟩ = some (.slice D2.a1 L3.doc.book.length D2.c1))
      (first | go_keep | (refine ⟨?_, ?_⟩ <;> assumption))
      (first
        | (go_at_call 13; refine (HDC.out _ (by first | exact HBR.out | exact below_drewN HBR.out _ | exact HBR.out.drew)).mono ?_; rintro e w6 ⟨rfl, hw⟩
           obtain rfl := hw.symm)
        | (go_at_call 23; refine (HBO.out _ (by first | exact HBR.out | exact below_drewN HBR.out _ | exact HBR.out.drew)).mono ?_; rintro e w6 ⟨V, c, rfl, hb6, hL⟩
           have HB6 := Lib.hid hb6
           have HL6 := Lib.hid (hL w6 (Below.refl _ _))
           clear r0 r1
           obtain ⟨r0, r1⟩ := HCEL.out w6 hb6
           clear hb6 hL)
        | (go_at_call 22; refine HL6.out.mono ?_; rintro e w7 ⟨rfl, hb7⟩
           have HBa := Lib.hid hb7
           clear r0 r1
           obtain ⟨r0, r1⟩ := HCEL.out w7 hb7
           clear hb7 HL6 HB6))
    all_goals
      go_wp2_with fail
      go_meet
      case rel => exact ⟨rfl, HBa.out⟩
  case rest =>
  obtain ⟨rfl, hb9⟩ := hcut
  have HK9 := Lib.hid (HK3.out.step hb9)
  clear hb9 HK3 HTW HDC HDO HBR HBO HCEL r0 r1
  go_wp2_with fail
  exact HQ.out.use HK9
end lawLogKeeps
end Go.Proofs.YthfbjfocmnikaaaGreatDoor
/- leaflaw3.LogKeeps, its second part: any ops, syncs, stops and crashes. Conditions: none of our own. -/
namespace Go.Proofs.YthfbjfocmnikaaaGreatDoor
open Go.RowKit
set_option linter.unusedVariables false
namespace lawLogKeeps
/-- A frame of which some slots are known. -/
def At (ks : List (Nat × Value)) (a : Act) : Prop := a.tmps.size = 338 ∧ a.defers = [] ∧ ∀ k ∈ ks, a.tmps[k.1]? = some k.2
theorem list_open (l : List Value) {n : Nat} (h : l.length = n) : l = (List.range n).map (fun i => l.getD i undef) := by
  refine List.ext_getElem? fun i => ?_
  rcases Nat.lt_or_ge i n with hi | hi
  · rw [List.getElem?_map, List.getElem?_range hi, List.getElem?_eq_getElem (by omega)]
    simp [List.getD, List.getElem?_eq_getElem (show i < l.length by omega)]
  · rw [List.getElem?_eq_none (by omega), List.getElem?_eq_none (by simp; omega)]
set_option maxRecDepth 100000 in
theorem frame_open {a : Act} {ks : List (Nat × Value)} (h : At ks a) : ∃ f : Nat → Value, a = ⟨#[f 0, f 1, f 2, f 3, f 4, f 5, f 6, f 7, f 8, f 9, f 10, f 11, f 12, f 13, f 14, f 15, f 16, f 17, f 18, f 19, f 20, f 21, f 22, f 23, f 24, f 25, f 26, f 27, f 28, f 29, f 30, f 31, f 32, f 33, f 34, f 35, f 36, f 37, f 38, f 39, f 40, f 41, f 42, f 43, f 44, f 45, f 46, f 47, f 48, f 49, f 50, f 51, f 52, f 53, f 54, f 55, f 56, f 57, f 58, f 59, f 60, f 61, f 62, f 63, f 64, f 65, f 66, f 67, f 68, f 69, f 70, f 71, f 72, f 73, f 74, f 75, f 76, f 77, f 78, f 79, f 80, f 81, f 82, f 83, f 84, f 85, f 86, f 87, f 88, f 89, f 90, f 91, f 92, f 93, f 94, f 95, f 96, f 97, f 98, f 99, f 100, f 101, f 102, f 103, f 104, f 105, f 106, f 107, f 108, f 109, f 110, f 111, f 112, f 113, f 114, f 115, f 116, f 117, f 118, f 119, f 120, f 121, f 122, f 123, f 124, f 125, f 126, f 127, f 128, f 129, f 130, f 131, f 132, f 133, f 134, f 135, f 136, f 137, f 138, f 139, f 140, f 141, f 142, f 143, f 144, f 145, f 146, f 147, f 148, f 149, f 150, f 151, f 152, f 153, f 154, f 155, f 156, f 157, f 158, f 159, f 160, f 161, f 162, f 163, f 164, f 165, f 166, f 167, f 168, f 169, f 170, f 171, f 172, f 173, f 174, f 175, f 176, f 177, f 178, f 179, f 180, f 181, f 182, f 183, f 184, f 185, f 186, f 187, f 188, f 189, f 190, f 191, f 192, f 193, f 194, f 195, f 196, f 197, f 198, f 199, f 200, f 201, f 202, f 203, f 204, f 205, f 206, f 207, f 208, f 209, f 210, f 211, f 212, f 213, f 214, f 215, f 216, f 217, f 218, f 219, f 220, f 221, f 222, f 223, f 224, f 225, f 226, f 227, f 228, f 229, f 230, f 231, f 232, f 233, f 234, f 235, f 236, f 237, f 238, f 239, f 240, f 241, f 242, f 243, f 244, f 245, f 246, f 247, f 248, f 249, f 250, f 251, f 252, f 253, f 254, f 255, f 256, f 257, f 258, f 259, f 260, f 261, f 262, f 263, f 264, f 265, f 266, f 267, f 268, f 269, f 270, f 271, f 272, f 273, f 274, f 275, f 276, f 277, f 278, f 279, f 280, f 281, f 282, f 283, f 284, f 285, f 286, f 287, f 288, f 289, f 290, f 291, f 292, f 293, f 294, f 295, f 296, f 297, f 298, f 299, f 300, f 301, f 302, f 303, f 304, f 305, f 306, f 307, f 308, f 309, f 310, f 311, f 312, f 313, f 314, f 315, f 316, f 317, f 318, f 319, f 320, f 321, f 322, f 323, f 324, f 325, f 326, f 327, f 328, f 329, f 330, f 331, f 332, f 333, f 334, f 335, f 336, f 337], []⟩ ∧ ∀ k ∈ ks, f k.1 = k.2 := by
  obtain ⟨h1, h2, h3⟩ := h
  obtain ⟨t, d⟩ := a
  obtain ⟨l⟩ := t
  simp only at h1 h2 h3
  subst h2
  refine ⟨fun n => l.getD n undef, ?_, fun k hk => ?_⟩
  · have e := list_open l (n := 338) (by simpa using h1)
    have e2 : ∀ g : Nat → Value, (List.range 338).map g = [g 0, g 1, g 2, g 3, g 4, g 5, g 6, g 7, g 8, g 9, g 10, g 11, g 12, g 13, g 14, g 15, g 16, g 17, g 18, g 19, g 20, g 21, g 22, g 23, g 24, g 25, g 26, g 27, g 28, g 29, g 30, g 31, g 32, g 33, g 34, g 35, g 36, g 37, g 38, g 39, g 40, g 41, g 42, g 43, g 44, g 45, g 46, g 47, g 48, g 49, g 50, g 51, g 52, g 53, g 54, g 55, g 56, g 57, g 58, g 59, g 60, g 61, g 62, g 63, g 64, g 65, g 66, g 67, g 68, g 69, g 70, g 71, g 72, g 73, g 74, g 75, g 76, g 77, g 78, g 79, g 80, g 81, g 82, g 83, g 84, g 85, g 86, g 87, g 88, g 89, g 90, g 91, g 92, g 93, g 94, g 95, g 96, g 97, g 98, g 99, g 100, g 101, g 102, g 103, g 104, g 105, g 106, g 107, g 108, g 109, g 110, g 111, g 112, g 113, g 114, g 115, g 116, g 117, g 118, g 119, g 120, g 121, g 122, g 123, g 124, g 125, g 126, g 127, g 128, g 129, g 130, g 131, g 132, g 133, g 134, g 135, g 136, g 137, g 138, g 139, g 140, g 141, g 142, g 143, g 144, g 145, g 146, g 147, g 148, g 149, g 150, g 151, g 152, g 153, g 154, g 155, g 156, g 157, g 158, g 159, g 160, g 161, g 162, g 163, g 164, g 165, g 166, g 167, g 168, g 169, g 170, g 171, g 172, g 173, g 174, g 175, g 176, g 177, g 178, g 179, g 180, g 181, g 182, g 183, g 184, g 185, g 186, g 187, g 188, g 189, g 190, g 191, g 192, g 193, g 194, g 195, g 196, g 197, g 198, g 199, g 200, g 201, g 202, g 203, g 204, g 205, g 206, g 207, g 208, g 209, g 210, g 211, g 212, g 213, g 214, g 215, g 216, g 217, g 218, g 219, g 220, g 221, g 222, g 223, g 224, g 225, g 226, g 227, g 228, g 229, g 230, g 231, g 232, g 233, g 234, g 235, g 236, g 237, g 238, g 239, g 240, g 241, g 242, g 243, g 244, g 245, g 246, g 247, g 248, g 249, g 250, g 251, g 252, g 253, g 254, g 255, g 256, g 257, g 258, g 259, g 260, g 261, g 262, g 263, g 264, g 265, g 266, g 267, g 268, g 269, g 270, g 271, g 272, g 273, g 274, g 275, g 276, g 277, g 278, g 279, g 280, g 281, g 282, g 283, g 284, g 285, g 286, g 287, g 288, g 289, g 290, g 291, g 292, g 293, g 294, g 295, g 296, g 297, g 298, g 299, g 300, g 301, g 302, g 303, g 304, g 305, g 306, g 307, g 308, g 309, g 310, g 311, g 312, g 313, g 314, g 315, g 316, g 317, g 318, g 319, g 320, g 321, g 322, g 323, g 324, g 325, g 326, g 327, g 328, g 329, g 330, g 331, g 332, g 333, g 334, g 335, g 336, g 337] := fun g => rfl
    rw [e2] at e
    exact congrArg (fun x => (⟨⟨x⟩, []⟩ : Act)) e
  · have := h3 k hk
    simp at this
    simp [List.getD, this]
noncomputable def tailCode : Code := ((Tryz.f3.body.bind (fromAt 11)).getD .skip)
set_option maxRecDepth 100000 in
set_option maxHeartbeats 16000000 in
theorem tail (w w0 : World) (hglob : Glob w) (hb0 : Below w.heap.size w w0) (A : Option Addr) (cA : Nat) (ys : List OpAt) (hr : Reads w w.heap.size 6 A ys.length (ocells ys)) (hg : ∀ y ∈ ys, y.Good w) (hnl : ys.length ≤ 9223372036854775807)
    (B1 : Option Addr) (d1 : Nat) (sy : List Int) (hsy : Reads w w.heap.size 1 B1 sy.length (ints sy)) (hns : sy.length ≤ 9223372036854775807)
    (B2 : Option Addr) (d2 : Nat) (fl : List Int) (hfl : Reads w w.heap.size 1 B2 fl.length (ints fl)) (hfr : ∀ x ∈ fl, -9223372036854775808 ≤ x ∧ x ≤ 9223372036854775807) (hnf : fl.length ≤ 9223372036854775807)
    (B3 : Option Addr) (d3 : Nat) (kp : List Int) (hkp : Reads w w.heap.size 1 B3 kp.length (ints kp)) (hkr : ∀ x ∈ kp, -9223372036854775808 ≤ x ∧ x ≤ 9223372036854775807) (hnk : kp.length ≤ 9223372036854775807) {u4 u5 u6 u7 u8 u9 u10 u11 u12 u13 u14 u15 u16 u17 u18 u19 u20 u21 u22 u23 u24 u25 u26 u27 u28 u29 u30 u31 u32 u33 u34 u35 u36 u37 u38 u39 u40 u41 u42 u43 u44 u45 u46 u47 u48 u49 u50 u51 u52 u53 u54 u55 u56 u57 u58 u59 u60 u61 u62 u63 u64 u65 u66 u67 u68 u69 u70 u71 u72 u73 u74 u75 u76 u77 u78 u79 u80 u81 u82 u83 u84 u85 u86 u87 u88 u89 u90 u91 u92 u93 u94 u95 u96 u97 u98 u99 u100 u101 u102 u103 u104 u105 u106 u107 u108 u109 u110 u111 u112 u113 u114 u115 u116 u117 u118 u119 u120 u121 u122 u123 u124 u125 u126 u127 u128 u129 u130 u131 u132 u133 u134 u135 u136 u137 u138 u139 u140 u141 u142 u143 u144 u145 u146 u147 u148 u149 u150 u151 u152 u153 u154 u155 u156 u157 u158 u159 u160 u161 u162 u163 u164 u165 u166 u167 u168 u169 u170 u171 u172 u173 u174 u175 u176 u177 u178 u179 u180 u181 u182 u183 u184 u185 u186 u187 u188 u189 u190 u191 u192 u193 u194 u195 u196 u197 u198 u199 u200 u201 u202 u203 u204 u205 u206 u207 u208 u209 u210 u211 u212 u213 u214 u215 u216 u217 u218 u219 u220 u221 u222 u223 u224 u225 u226 u227 u228 u229 u230 u231 u232 u233 u234 u235 u236 u237 u238 u239 u240 u241 u242 u243 u244 u245 u246 u247 u248 u249 u250 u251 u252 u253 u254 u255 u256 u257 u258 u259 u260 u261 u262 u263 u264 u265 u266 u267 u268 u269 u270 u271 u272 u273 u274 u275 u276 u277 u278 u279 u280 u281 u282 u283 u284 u285 u286 u287 u288 u289 u290 u291 u292 u293 u294 u295 u296 u297 u298 u299 u300 u301 u302 u303 u304 u305 u306 u307 u308 u309 u310 u311 u312 u313 u314 u315 u316 u317 u318 u319 u320 u321 u322 u323 u324 u325 u326 u327 u328 u329 u330 u331 u332 u333 u334 u335 u336 u337 : Value} :
    Code.wp Tryz.prog tailCode (bodyPost Tryz.prog Tryz.f3 (CheckPost w (.bool true))) ⟨#[.slice A ys.length cA, .slice B1 sy.length d1, .slice B2 fl.length d2, .slice B3 kp.length d3, u4, u5, u6, u7, u8, u9, u10, u11, u12, u13, u14, u15, u16, u17, u18, u19, u20, u21, u22, u23, u24, u25, u26, u27, u28, u29, u30, u31, u32, u33, u34, u35, u36, u37, u38, u39, u40, u41, u42, u43, u44, u45, u46, u47, u48, u49, u50, u51, u52, u53, u54, u55, u56, u57, u58, u59, u60, u61, u62, u63, u64, u65, u66, u67, u68, u69, u70, u71, u72, u73, u74, u75, u76, u77, u78, u79, u80, u81, u82, u83, u84, u85, u86, u87, u88, u89, u90, u91, u92, u93, u94, u95, u96, u97, u98, u99, u100, u101, u102, u103, u104, u105, u106, u107, u108, u109, u110, u111, u112, u113, u114, u115, u116, u117, u118, u119, u120, u121, u122, u123, u124, u125, u126, u127, u128, u129, u130, u131, u132, u133, u134, u135, u136, u137, u138, u139, u140, u141, u142, u143, u144, u145, u146, u147, u148, u149, u150, u151, u152, u153, u154, u155, u156, u157, u158, u159, u160, u161, u162, u163, u164, u165, u166, u167, u168, u169, u170, u171, u172, u173, u174, u175, u176, u177, u178, u179, u180, u181, u182, u183, u184, u185, u186, u187, u188, u189, u190, u191, u192, u193, u194, u195, u196, u197, u198, u199, u200, u201, u202, u203, u204, u205, u206, u207, u208, u209, u210, u211, u212, u213, u214, u215, u216, u217, u218, u219, u220, u221, u222, u223, u224, u225, u226, u227, u228, u229, u230, u231, u232, u233, u234, u235, u236, u237, u238, u239, u240, u241, u242, u243, u244, u245, u246, u247, u248, u249, u250, u251, u252, u253, u254, u255, u256, u257, u258, u259, u260, u261, u262, u263, u264, u265, u266, u267, u268, u269, u270, u271, u272, u273, u274, u275, u276, u277, u278, u279, u280, u281, u282, u283, u284, u285, u286, u287, u288, u289, u290, u291, u292, u293, u294, u295, u296, u297, u298, u299, u300, u301, u302, u303, u304, u305, u306, u307, u308, u309, u310, u311, u312, u313, u314, u315, u316, u317, u318, u319, u320, u321, u322, u323, u324, u325, u326, u327, u328, u329, u330, u331, u332, u333, u334, u335, u336, u337], []⟩ w0 := by
  have HGL := Lib.hid hglob
  have HB0 := Lib.hid hb0
  have HR := Lib.hid hr
  have HG := Lib.hid hg
  have HSY := Lib.hid hsy
  have HFL := Lib.hid hfl
  have HFR := Lib.hid hfr
  have HKP := Lib.hid hkp
  have HKR := Lib.hid hkr
  have HE0 : errV 0 = .nilIface := rfl
  have HER := Lib.hid (fun W k e (hb : Below w.heap.size w W) => error_any W k e (HGL.out.below hb (Nat.le_refl _)))
  have HLN := Lib.hid (lnew_any w0)
  clear hglob hb0 hr hg hsy hfl hfr hkp hkr
  conv => arg 2; whnf
  go_wp2_with fail
  refine HLN.out.mono ?_
  intro e w1 hpost
  obtain ⟨b, rfl, hlk⟩ := LK.make HB0.out hpost
  have HLK := Lib.hid hlk
  clear hpost hlk HLN
  have HRN := Lib.hid (rnew_at w1)
  go_wp2_with fail
  refine HRN.out.mono ?_
  intro e w2 hnew
  have HM0 : Hid (KAt w w0.heap.size b LLog.new LLog.new.kept 0 (some ⟨w2.heap.size, 0, none⟩) 1 (some ⟨w2.heap.size + 1, 0, none⟩) 1 ((w2.alloc (.cells #[.pointer (some ⟨w1.heap.size + 1, 0, none⟩)] 41)).alloc (.cells #[.int .i64 0] 3))) := by
    have hz : (w2.alloc (.cells #[.pointer (some ⟨w1.heap.size + 1, 0, none⟩)] 41)).heap.size = w2.heap.size + 1 := World.size_alloc _ _
    have b2 := Blk.new (w2.alloc (.cells #[.pointer (some ⟨w1.heap.size + 1, 0, none⟩)] 41)) 3 #[.int .i64 0]
    rw [hz] at b2
    obtain ⟨K, K0, hk⟩ := KS.init (wr := (w2.alloc (.cells #[.pointer (some ⟨w1.heap.size + 1, 0, none⟩)] 41)).alloc (.cells #[.int .i64 0] 3)) HLK.out hnew (((Below.refl _ _).alloc (Nat.le_refl _) _).alloc (by simp) _) (Nat.le_refl _) (Nat.le_succ _) ((Blk.new w2 _ _).alloc _) b2
    exact ⟨rfl, K, K0, _, hk⟩
  have he := hnew.1
  subst he
  clear hnew HRN HLK
  go_wp2_with fail
  refine wp_loop (fun a' wx => ∃ (r a : Nat) (n : Nat) (L : LLog) (A1 : Option Addr) (c1 : Nat) (A2 : Option Addr) (c2 : Nat), At [(0, .slice A ys.length cA), (1, .slice B1 sy.length d1), (2, .slice B2 fl.length d2), (3, .slice B3 kp.length d3), (16, .pointer (some ⟨b, 0, none⟩)), (17, .slice A1 (n + 1) c1), (18, .slice A2 (n + 1) c2), (19, .int .i64 (a : Nat)), (20, .int .i64 (r : Nat))] a' ∧ r ≤ 4 ∧ a ≤ ys.length ∧ Hid (KAt w w0.heap.size b L L.kept n A1 c1 A2 c2 wx)) (fun a' _ => 4 - (intOf (a'.tmps.getD 20 undef)).toNat) ?startA ?roundA
  case startA => exact ⟨0, 0, 0, LLog.new, _, _, _, _, ⟨rfl, rfl, by intro kk hkk; simp only [List.mem_cons, List.not_mem_nil, or_false] at hkk; rcases hkk with rfl | rfl | rfl | rfl | rfl | rfl | rfl | rfl | rfl <;> rfl⟩, by omega, by omega, HM0⟩
  case roundA =>
    clear HM0
    rintro a' wr ⟨r, a, n, L, A1, c1, A2, c2, ha, hr4, hna, HK⟩
    obtain ⟨f, rfl, hf⟩ := frame_open ha
    have f0 := hf (0, .slice A ys.length cA) (by simp)
    have f1 := hf (1, .slice B1 sy.length d1) (by simp)
    have f2 := hf (2, .slice B2 fl.length d2) (by simp)
    have f3 := hf (3, .slice B3 kp.length d3) (by simp)
    have f16 := hf (16, .pointer (some ⟨b, 0, none⟩)) (by simp)
    have f17 := hf (17, .slice A1 (n + 1) c1) (by simp)
    have f18 := hf (18, .slice A2 (n + 1) c2) (by simp)
    have f19 := hf (19, .int .i64 (a : Nat)) (by simp)
    have f20 := hf (20, .int .i64 (r : Nat)) (by simp)
    dsimp only at f0 f1 f2 f3 f16 f17 f18 f19 f20
    rw [f0, f1, f2, f3, f16, f17, f18, f19, f20]
    clear hf ha f0 f1 f2 f3 f16 f17 f18 f19 f20
    by_cases hgo : r ≤ fl.length ∧ r < 4
    · obtain ⟨g1, g2⟩ := hgo
      have k1 : (r : Int) ≤ (fl.length : Int) := by omega
      have k2 : (r : Int) < 4 := by omega
      have k0 : (0 : Int) ≤ (r : Int) := by omega
      go_upto_if 106 with (fail)
      refine wp_cut (fun a' wx => ∃ L', At [(0, .slice A ys.length cA), (1, .slice B1 sy.length d1), (2, .slice B2 fl.length d2), (3, .slice B3 kp.length d3), (16, .pointer (some ⟨b, 0, none⟩)), (17, .slice A1 (n + 1) c1), (18, .slice A2 (n + 1) c2), (19, .int .i64 (a : Nat)), (20, .int .i64 (r : Nat))] a' ∧ Hid (KAt w w0.heap.size b L' L'.kept n A1 c1 A2 c2 wx)) ?rest1 ?first1
      case first1 =>
        intro J K' hJ hM
        by_cases hf : r < fl.length
        · have k3 : (r : Int) < (fl.length : Int) := by omega
          have HF := Lib.hid (HK.out.fail fl[r] (HFR.out _ (List.getElem_mem hf)).1 (HFR.out _ (List.getElem_mem hf)).2)
          obtain ⟨ad, hA, _, hc⟩ := (HFL.out.below HK.out.below).int hf
          subst hA
          generalize fl[r] = v at *
          clear hf
          go_wp2_with fail
          refine HF.out.mono ?_
          rintro e w3 ⟨rfl, h⟩
          have HK2 := Lib.hid h
          clear h HF HK hc
          go_wp2_with fail
          exact Met.intro (hJ _ _ ⟨_, ⟨rfl, rfl, by intro kk hkk; simp only [List.mem_cons, List.not_mem_nil, or_false] at hkk; rcases hkk with rfl | rfl | rfl | rfl | rfl | rfl | rfl | rfl | rfl <;> rfl⟩, HK2⟩)
        · have k3 : ¬ (r : Int) < (fl.length : Int) := by omega
          clear hf
          go_wp2_with fail
          exact Met.intro (hJ _ _ ⟨L, ⟨rfl, rfl, by intro kk hkk; simp only [List.mem_cons, List.not_mem_nil, or_false] at hkk; rcases hkk with rfl | rfl | rfl | rfl | rfl | rfl | rfl | rfl | rfl <;> rfl⟩, HK⟩)
      case rest1 =>
      rintro a' wr2 ⟨L', ha, HK'⟩
      clear HK
      obtain ⟨f, rfl, hf⟩ := frame_open ha
      have f0 := hf (0, .slice A ys.length cA) (by simp)
      have f1 := hf (1, .slice B1 sy.length d1) (by simp)
      have f2 := hf (2, .slice B2 fl.length d2) (by simp)
      have f3 := hf (3, .slice B3 kp.length d3) (by simp)
      have f16 := hf (16, .pointer (some ⟨b, 0, none⟩)) (by simp)
      have f17 := hf (17, .slice A1 (n + 1) c1) (by simp)
      have f18 := hf (18, .slice A2 (n + 1) c2) (by simp)
      have f19 := hf (19, .int .i64 (a : Nat)) (by simp)
      have f20 := hf (20, .int .i64 (r : Nat)) (by simp)
      dsimp only at f0 f1 f2 f3 f16 f17 f18 f19 f20
      rw [f0, f1, f2, f3, f16, f17, f18, f19, f20]
      clear hf ha f0 f1 f2 f3 f16 f17 f18 f19 f20
      go_upto_block 2 with (fail)
      refine wp_cut (fun a' wx => ∃ (a : Nat) (n : Nat) (L : LLog) (A1 : Option Addr) (c1 : Nat) (A2 : Option Addr) (c2 : Nat), At [(0, .slice A ys.length cA), (1, .slice B1 sy.length d1), (2, .slice B2 fl.length d2), (3, .slice B3 kp.length d3), (16, .pointer (some ⟨b, 0, none⟩)), (17, .slice A1 (n + 1) c1), (18, .slice A2 (n + 1) c2), (19, .int .i64 (a : Nat)), (20, .int .i64 (r : Nat))] a' ∧ a ≤ ys.length ∧ Hid (KAt w w0.heap.size b L L.kept n A1 c1 A2 c2 wx)) ?rest2 ?first2
      case first2 =>
        intro J K' hJ hM
        go_wp2_with fail
        refine wp_loop (fun a' wx => ∃ (k a : Nat) (n : Nat) (L : LLog) (A1 : Option Addr) (c1 : Nat) (A2 : Option Addr) (c2 : Nat), At [(0, .slice A ys.length cA), (1, .slice B1 sy.length d1), (2, .slice B2 fl.length d2), (3, .slice B3 kp.length d3), (16, .pointer (some ⟨b, 0, none⟩)), (17, .slice A1 (n + 1) c1), (18, .slice A2 (n + 1) c2), (19, .int .i64 (a : Nat)), (20, .int .i64 (r : Nat)), (21, .int .i64 (k : Nat))] a' ∧ k ≤ 8 ∧ a ≤ ys.length ∧ Hid (KAt w w0.heap.size b L L.kept n A1 c1 A2 c2 wx)) (fun a' _ => 8 - (intOf (a'.tmps.getD 21 undef)).toNat) ?startB ?roundB
        case startB => exact ⟨0, a, n, L', _, _, _, _, ⟨rfl, rfl, by intro kk hkk; simp only [List.mem_cons, List.not_mem_nil, or_false] at hkk; rcases hkk with rfl | rfl | rfl | rfl | rfl | rfl | rfl | rfl | rfl | rfl <;> rfl⟩, by omega, hna, HK'⟩
        case roundB =>
          clear HK' hna k1 k2 k0 g1 g2
          rintro a' wr3 ⟨k, a, n, L, A1, c1, A2, c2, ha, hk8, hna, HK⟩
          obtain ⟨f, rfl, hf⟩ := frame_open ha
          have f0 := hf (0, .slice A ys.length cA) (by simp)
          have f1 := hf (1, .slice B1 sy.length d1) (by simp)
          have f2 := hf (2, .slice B2 fl.length d2) (by simp)
          have f3 := hf (3, .slice B3 kp.length d3) (by simp)
          have f16 := hf (16, .pointer (some ⟨b, 0, none⟩)) (by simp)
          have f17 := hf (17, .slice A1 (n + 1) c1) (by simp)
          have f18 := hf (18, .slice A2 (n + 1) c2) (by simp)
          have f19 := hf (19, .int .i64 (a : Nat)) (by simp)
          have f20 := hf (20, .int .i64 (r : Nat)) (by simp)
          have f21 := hf (21, .int .i64 (k : Nat)) (by simp)
          dsimp only at f0 f1 f2 f3 f16 f17 f18 f19 f20 f21
          rw [f0, f1, f2, f3, f16, f17, f18, f19, f20, f21]
          clear hf ha f0 f1 f2 f3 f16 f17 f18 f19 f20 f21
          by_cases hgo : k < 8 ∧ a < ys.length
          · obtain ⟨g1, g2⟩ := hgo
            have k1 : (k : Int) < 8 := by omega
            have k2 : (a : Int) < (ys.length : Int) := by omega
            have k0 : (0 : Int) ≤ (a : Int) := by omega
            go_upto_region 23 with (fail)
            refine wp_cut (fun a' wx => ∃ L', At [(0, .slice A ys.length cA), (1, .slice B1 sy.length d1), (2, .slice B2 fl.length d2), (3, .slice B3 kp.length d3), (16, .pointer (some ⟨b, 0, none⟩)), (17, .slice A1 (n + 1) c1), (18, .slice A2 (n + 1) c2), (19, .int .i64 (a : Nat)), (20, .int .i64 (r : Nat)), (21, .int .i64 (k : Nat)), (145, .bool false)] a' ∧ Hid (KAt w w0.heap.size b L' L'.kept n A1 c1 A2 c2 wx)) ?rest3 ?first3
            case first3 =>
              intro J K' hJ hM
              by_cases hs1 : a < sy.length
              · have q1 : (a : Int) < (sy.length : Int) := by omega
                obtain ⟨ad, hA, _, hc⟩ := (HSY.out.below HK.out.below).int hs1
                subst hA
                generalize sy[a] = v at *
                clear hs1
                by_cases hv : v = 1
                · subst hv
                  go_wp2_with fail
                  refine HK.out.sync.mono ?_
                  rintro e w3 ⟨rfl, h1⟩
                  have h2 : KAt w w0.heap.size b L.sync L.sync.kept n A1 c1 A2 c2 w3 := by rw [LLog.sync_kept]; exact h1
                  have HK2 := Lib.hid h2
                  clear h1 hc
                  by_cases hE : L.syncE = 0
                  · have HSF := Lib.hid h2.safe
                    rw [LLog.sync_safe hE] at HSF
                    have HBY := Lib.hid h2.bytes
                    rw [hE, HE0]
                    clear h2 hE HK
                    generalize L.sync.m = mm at *
                    go_wp2_with fail
                    refine HSF.out.mono ?_
                    rintro e w4 ⟨rfl, hw⟩
                    obtain rfl := hw.symm
                    clear hw
                    go_wp2_with fail
                    refine HBY.out.mono ?_
                    rintro e w5 ⟨rfl, hw⟩
                    obtain rfl := hw.symm
                    clear hw
                    go_wp2_with fail
                    exact Met.intro (hJ _ _ ⟨_, ⟨rfl, rfl, by intro kk hkk; simp only [List.mem_cons, List.not_mem_nil, or_false] at hkk; rcases hkk with rfl | rfl | rfl | rfl | rfl | rfl | rfl | rfl | rfl | rfl | rfl <;> rfl⟩, HK2⟩)
                  · rw [errV_ne hE]
                    clear h2 hE HK
                    go_wp2_with fail
                    exact Met.intro (hJ _ _ ⟨_, ⟨rfl, rfl, by intro kk hkk; simp only [List.mem_cons, List.not_mem_nil, or_false] at hkk; rcases hkk with rfl | rfl | rfl | rfl | rfl | rfl | rfl | rfl | rfl | rfl | rfl <;> rfl⟩, HK2⟩)
                · have q2 : (v == 1) = false := by simpa using hv
                  clear hv
                  go_wp2_with fail
                  exact Met.intro (hJ _ _ ⟨L, ⟨rfl, rfl, by intro kk hkk; simp only [List.mem_cons, List.not_mem_nil, or_false] at hkk; rcases hkk with rfl | rfl | rfl | rfl | rfl | rfl | rfl | rfl | rfl | rfl | rfl <;> rfl⟩, HK⟩)
              · have q1 : ¬ (a : Int) < (sy.length : Int) := by omega
                clear hs1
                go_wp2_with fail
                exact Met.intro (hJ _ _ ⟨L, ⟨rfl, rfl, by intro kk hkk; simp only [List.mem_cons, List.not_mem_nil, or_false] at hkk; rcases hkk with rfl | rfl | rfl | rfl | rfl | rfl | rfl | rfl | rfl | rfl | rfl <;> rfl⟩, HK⟩)
            case rest3 =>
            rintro a' wr4 ⟨L', ha, HK'⟩
            clear HK
            obtain ⟨f, rfl, hf⟩ := frame_open ha
            have f0 := hf (0, .slice A ys.length cA) (by simp)
            have f1 := hf (1, .slice B1 sy.length d1) (by simp)
            have f2 := hf (2, .slice B2 fl.length d2) (by simp)
            have f3 := hf (3, .slice B3 kp.length d3) (by simp)
            have f16 := hf (16, .pointer (some ⟨b, 0, none⟩)) (by simp)
            have f17 := hf (17, .slice A1 (n + 1) c1) (by simp)
            have f18 := hf (18, .slice A2 (n + 1) c2) (by simp)
            have f19 := hf (19, .int .i64 (a : Nat)) (by simp)
            have f20 := hf (20, .int .i64 (r : Nat)) (by simp)
            have f21 := hf (21, .int .i64 (k : Nat)) (by simp)
            have f145 := hf (145, .bool false) (by simp)
            dsimp only at f0 f1 f2 f3 f16 f17 f18 f19 f20 f21 f145
            rw [f0, f1, f2, f3, f16, f17, f18, f19, f20, f21, f145]
            clear hf ha f0 f1 f2 f3 f16 f17 f18 f19 f20 f21 f145
            go_upto_if 145 with (fail)
            refine wp_cut (fun a' wx => At [(0, .slice A ys.length cA), (1, .slice B1 sy.length d1), (2, .slice B2 fl.length d2), (3, .slice B3 kp.length d3), (16, .pointer (some ⟨b, 0, none⟩)), (17, .slice A1 (n + 1) c1), (18, .slice A2 (n + 1) c2), (19, .int .i64 (a : Nat)), (20, .int .i64 (r : Nat)), (21, .int .i64 (k : Nat))] a' ∧ Hid (KAt w w0.heap.size b L' L'.kept n A1 c1 A2 c2 wx)) ?rest4 ?first4
            case first4 =>
              intro J K' hJ hM
              go_wp2_with fail
              exact Met.intro (hJ _ _ ⟨⟨rfl, rfl, by intro kk hkk; simp only [List.mem_cons, List.not_mem_nil, or_false] at hkk; rcases hkk with rfl | rfl | rfl | rfl | rfl | rfl | rfl | rfl | rfl | rfl <;> rfl⟩, HK'⟩)
            case rest4 =>
            rintro a' wr5 ⟨ha, HK2⟩
            clear HK'
            obtain ⟨f, rfl, hf⟩ := frame_open ha
            have f0 := hf (0, .slice A ys.length cA) (by simp)
            have f1 := hf (1, .slice B1 sy.length d1) (by simp)
            have f2 := hf (2, .slice B2 fl.length d2) (by simp)
            have f3 := hf (3, .slice B3 kp.length d3) (by simp)
            have f16 := hf (16, .pointer (some ⟨b, 0, none⟩)) (by simp)
            have f17 := hf (17, .slice A1 (n + 1) c1) (by simp)
            have f18 := hf (18, .slice A2 (n + 1) c2) (by simp)
            have f19 := hf (19, .int .i64 (a : Nat)) (by simp)
            have f20 := hf (20, .int .i64 (r : Nat)) (by simp)
            have f21 := hf (21, .int .i64 (k : Nat)) (by simp)
            dsimp only at f0 f1 f2 f3 f16 f17 f18 f19 f20 f21
            rw [f0, f1, f2, f3, f16, f17, f18, f19, f20, f21]
            clear hf ha f0 f1 f2 f3 f16 f17 f18 f19 f20 f21
            refine (?hk1 : ∀ (a' : Act) (w'' : World), Code.wp Tryz.prog ?cc1 ?QQ1 a' w'' → (?KK1 : Act → World → Prop) a' w'') _ _ ?_
            case hk1 => assumption
            refine (lawLogKeeps.inner w wr5 HGL.out A cA ys HR.out HG.out hnl w0.heap.size b r k a n g2 L' A1 c1 A2 c2 HK2 _ ?_)
            unfold lawLogKeeps.InnerQ
            intro n3 L3 A3 c3 A4 c4 wx v4 v5 v6 v7 v8 v9 v10 v11 v12 v13 v14 v15 v22 v23 v24 v25 v26 v27 v28 v29 v30 v31 v32 v33 v34 v35 v36 v37 v38 v39 v40 v41 v42 v43 v44 v45 v46 v47 v48 v49 v50 v51 v52 v53 v54 v55 v56 v57 v58 v59 v60 v61 v62 v63 v64 v65 v66 v67 v68 v69 v70 v71 v72 v73 v74 v75 v76 v77 v78 v79 v80 v81 v82 v83 v84 v85 v86 v87 v88 v89 v90 v91 v92 v93 v94 v95 v96 v97 v98 v99 v100 v101 v102 v103 v104 v105 v106 v107 v108 v109 v110 v111 v112 v113 v114 v115 v116 v117 v118 v119 v120 v121 v122 v123 v124 v125 v126 v127 v128 v129 v130 v131 v132 v133 v134 v135 v136 v137 v138 v139 v140 v141 v142 v143 v144 v145 v146 v147 v148 v149 v150 v151 v152 v153 v154 v155 v156 v157 v158 v159 v160 v161 v162 v163 v164 v165 v166 v167 v168 v169 v170 v171 v172 v173 v174 v175 v176 v177 v178 v179 v180 v181 v182 v183 v184 v185 v186 v187 v188 v189 v190 v191 v192 v193 v194 v195 v196 v197 v198 v199 v200 v201 v202 v203 v204 v205 v206 v207 v208 v209 v210 v211 v212 v213 v214 v215 v216 v217 v218 v219 v220 v221 v222 v223 v224 v225 v226 v227 v228 v229 v230 v231 v232 v233 v234 v235 v236 v237 v238 v239 v240 v241 v242 v243 v244 v245 v246 v247 v248 v249 v250 v251 v252 v253 v254 v255 v256 v257 v258 v259 v260 v261 v262 v263 v264 v265 v266 v267 v268 v269 v270 v271 v272 v273 v274 v275 v276 v277 v278 v279 v280 v281 v282 v283 v284 v285 v286 v287 v288 v289 v290 v291 v292 v293 v294 v295 v296 v297 v298 v299 v300 v301 v302 v303 v304 v305 v306 v307 v308 v309 v310 v311 v312 v313 v314 v315 v316 v317 v318 v319 v320 v321 v322 v323 v324 v325 v326 v327 v328 v329 v330 v331 v332 v333 v334 v335 v336 v337 HK9
            go_wp2_with fail
            refine ⟨⟨k + 1, a + 1, n3, L3, A3, c3, A4, c4, ⟨rfl, rfl, by intro kk hkk; simp only [List.mem_cons, List.not_mem_nil, or_false] at hkk; rcases hkk with rfl | rfl | rfl | rfl | rfl | rfl | rfl | rfl | rfl | rfl <;> rfl⟩, by omega, by omega, HK9⟩, ?_⟩
            show 8 - (intOf (.int .i64 ((k : Int) + 1))).toNat < 8 - (intOf (.int .i64 (k : Int))).toNat
            simp [intOf]; omega
          · go_upto_region 21 with (fail)
            refine wp_cut (fun a' wx => At [(0, .slice A ys.length cA), (1, .slice B1 sy.length d1), (2, .slice B2 fl.length d2), (3, .slice B3 kp.length d3), (16, .pointer (some ⟨b, 0, none⟩)), (17, .slice A1 (n + 1) c1), (18, .slice A2 (n + 1) c2), (19, .int .i64 (a : Nat)), (20, .int .i64 (r : Nat)), (21, .int .i64 (k : Nat)), (120, .bool false)] a' ∧ wx = wr3) ?rest5 ?first5
            case first5 =>
              intro J K' hJ hM
              by_cases k1 : k < 8
              · have k2 : (k : Int) < 8 := by omega
                have k3 : ¬ (a : Int) < (ys.length : Int) := by omega
                clear hgo k1
                go_wp2_with fail
                exact Met.intro (hJ _ _ ⟨⟨rfl, rfl, by intro kk hkk; simp only [List.mem_cons, List.not_mem_nil, or_false] at hkk; rcases hkk with rfl | rfl | rfl | rfl | rfl | rfl | rfl | rfl | rfl | rfl | rfl <;> rfl⟩, rfl⟩)
              · have k2 : ¬ (k : Int) < 8 := by omega
                clear hgo k1
                go_wp2_with fail
                exact Met.intro (hJ _ _ ⟨⟨rfl, rfl, by intro kk hkk; simp only [List.mem_cons, List.not_mem_nil, or_false] at hkk; rcases hkk with rfl | rfl | rfl | rfl | rfl | rfl | rfl | rfl | rfl | rfl | rfl <;> rfl⟩, rfl⟩)
            case rest5 =>
            rintro a' wr4 ⟨ha, hw⟩
            obtain rfl := hw.symm
            clear hgo hw
            obtain ⟨f, rfl, hf⟩ := frame_open ha
            have f0 := hf (0, .slice A ys.length cA) (by simp)
            have f1 := hf (1, .slice B1 sy.length d1) (by simp)
            have f2 := hf (2, .slice B2 fl.length d2) (by simp)
            have f3 := hf (3, .slice B3 kp.length d3) (by simp)
            have f16 := hf (16, .pointer (some ⟨b, 0, none⟩)) (by simp)
            have f17 := hf (17, .slice A1 (n + 1) c1) (by simp)
            have f18 := hf (18, .slice A2 (n + 1) c2) (by simp)
            have f19 := hf (19, .int .i64 (a : Nat)) (by simp)
            have f20 := hf (20, .int .i64 (r : Nat)) (by simp)
            have f21 := hf (21, .int .i64 (k : Nat)) (by simp)
            have f120 := hf (120, .bool false) (by simp)
            dsimp only at f0 f1 f2 f3 f16 f17 f18 f19 f20 f21 f120
            rw [f0, f1, f2, f3, f16, f17, f18, f19, f20, f21, f120]
            clear hf ha f0 f1 f2 f3 f16 f17 f18 f19 f20 f21 f120
            go_wp2_with fail
            exact Met.intro (hJ _ _ ⟨a, n, L, A1, c1, A2, c2, ⟨rfl, rfl, by intro kk hkk; simp only [List.mem_cons, List.not_mem_nil, or_false] at hkk; rcases hkk with rfl | rfl | rfl | rfl | rfl | rfl | rfl | rfl | rfl <;> rfl⟩, hna, HK⟩)
      case rest2 =>
      rintro a' wr3 ⟨a, n, L, A1, c1, A2, c2, ha, hna, HK⟩
      clear HK'
      obtain ⟨f, rfl, hf⟩ := frame_open ha
      have f0 := hf (0, .slice A ys.length cA) (by simp)
      have f1 := hf (1, .slice B1 sy.length d1) (by simp)
      have f2 := hf (2, .slice B2 fl.length d2) (by simp)
      have f3 := hf (3, .slice B3 kp.length d3) (by simp)
      have f16 := hf (16, .pointer (some ⟨b, 0, none⟩)) (by simp)
      have f17 := hf (17, .slice A1 (n + 1) c1) (by simp)
      have f18 := hf (18, .slice A2 (n + 1) c2) (by simp)
      have f19 := hf (19, .int .i64 (a : Nat)) (by simp)
      have f20 := hf (20, .int .i64 (r : Nat)) (by simp)
      dsimp only at f0 f1 f2 f3 f16 f17 f18 f19 f20
      rw [f0, f1, f2, f3, f16, f17, f18, f19, f20]
      clear hf ha f0 f1 f2 f3 f16 f17 f18 f19 f20
      rename_i hK
      refine hK _ _ (lawLogKeepsCr.crash w wr3 B3 d3 kp HKP.out HKR.out hnk w0.heap.size b r a n L A1 c1 A2 c2 HK _ ?_)
      unfold lawLogKeepsCr.CrashQ
      intro n3 L3 A3 c3 A4 c4 wx v4 v5 v6 v7 v8 v9 v10 v11 v12 v13 v14 v15 v21 v22 v23 v24 v25 v26 v27 v28 v29 v30 v31 v32 v33 v34 v35 v36 v37 v38 v39 v40 v41 v42 v43 v44 v45 v46 v47 v48 v49 v50 v51 v52 v53 v54 v55 v56 v57 v58 v59 v60 v61 v62 v63 v64 v65 v66 v67 v68 v69 v70 v71 v72 v73 v74 v75 v76 v77 v78 v79 v80 v81 v82 v83 v84 v85 v86 v87 v88 v89 v90 v91 v92 v93 v94 v95 v96 v97 v98 v99 v100 v101 v102 v103 v104 v105 v106 v107 v108 v109 v110 v111 v112 v113 v114 v115 v116 v117 v118 v119 v120 v121 v122 v123 v124 v125 v126 v127 v128 v129 v130 v131 v132 v133 v134 v135 v136 v137 v138 v139 v140 v141 v142 v143 v144 v145 v146 v147 v148 v149 v150 v151 v152 v153 v154 v155 v156 v157 v158 v159 v160 v161 v162 v163 v164 v165 v166 v167 v168 v169 v170 v171 v172 v173 v174 v175 v176 v177 v178 v179 v180 v181 v182 v183 v184 v185 v186 v187 v188 v189 v190 v191 v192 v193 v194 v195 v196 v197 v198 v199 v200 v201 v202 v203 v204 v205 v206 v207 v208 v209 v210 v211 v212 v213 v214 v215 v216 v217 v218 v219 v220 v221 v222 v223 v224 v225 v226 v227 v228 v229 v230 v231 v232 v233 v234 v235 v236 v237 v238 v239 v240 v241 v242 v243 v244 v245 v246 v247 v248 v249 v250 v251 v252 v253 v254 v255 v256 v257 v258 v259 v260 v261 v262 v263 v264 v265 v266 v267 v268 v269 v270 v271 v272 v273 v274 v275 v276 v277 v278 v279 v280 v281 v282 v283 v284 v285 v286 v287 v288 v289 v290 v291 v292 v293 v294 v295 v296 v297 v298 v299 v300 v301 v302 v303 v304 v305 v306 v307 v308 v309 v310 v311 v312 v313 v314 v315 v316 v317 v318 v319 v320 v321 v322 v323 v324 v325 v326 v327 v328 v329 v330 v331 v332 v333 v334 v335 v336 v337 HK9
      go_wp2_with fail
      refine ⟨⟨r + 1, a, n3, L3, A3, c3, A4, c4, ⟨rfl, rfl, by intro kk hkk; simp only [List.mem_cons, List.not_mem_nil, or_false] at hkk; rcases hkk with rfl | rfl | rfl | rfl | rfl | rfl | rfl | rfl | rfl <;> rfl⟩, by omega, hna, HK9⟩, ?_⟩
      show 4 - (intOf (.int .i64 ((r : Int) + 1))).toNat < 4 - (intOf (.int .i64 (r : Int))).toNat
      simp [intOf]; omega
    · have HF := Lib.hid HK.out.below
      go_upto_region 16 with (fail)
      refine wp_cut (fun a' wx => At [(0, .slice A ys.length cA), (1, .slice B1 sy.length d1), (2, .slice B2 fl.length d2), (3, .slice B3 kp.length d3), (16, .pointer (some ⟨b, 0, none⟩)), (17, .slice A1 (n + 1) c1), (18, .slice A2 (n + 1) c2), (19, .int .i64 (a : Nat)), (20, .int .i64 (r : Nat)), (100, .bool false)] a' ∧ wx = wr) ?rest6 ?first6
      case first6 =>
        intro J K' hJ hM
        by_cases k1 : r ≤ fl.length
        · have k2 : (r : Int) ≤ (fl.length : Int) := by omega
          have k3 : ¬ (r : Int) < 4 := by omega
          clear hgo k1
          go_wp2_with fail
          exact Met.intro (hJ _ _ ⟨⟨rfl, rfl, by intro kk hkk; simp only [List.mem_cons, List.not_mem_nil, or_false] at hkk; rcases hkk with rfl | rfl | rfl | rfl | rfl | rfl | rfl | rfl | rfl | rfl <;> rfl⟩, rfl⟩)
        · have k2 : ¬ (r : Int) ≤ (fl.length : Int) := by omega
          clear hgo k1
          go_wp2_with fail
          exact Met.intro (hJ _ _ ⟨⟨rfl, rfl, by intro kk hkk; simp only [List.mem_cons, List.not_mem_nil, or_false] at hkk; rcases hkk with rfl | rfl | rfl | rfl | rfl | rfl | rfl | rfl | rfl | rfl <;> rfl⟩, rfl⟩)
      case rest6 =>
      rintro a' wr2 ⟨ha, hw⟩
      obtain rfl := hw.symm
      clear hw hgo
      obtain ⟨f, rfl, hf⟩ := frame_open ha
      have f0 := hf (0, .slice A ys.length cA) (by simp)
      have f1 := hf (1, .slice B1 sy.length d1) (by simp)
      have f2 := hf (2, .slice B2 fl.length d2) (by simp)
      have f3 := hf (3, .slice B3 kp.length d3) (by simp)
      have f16 := hf (16, .pointer (some ⟨b, 0, none⟩)) (by simp)
      have f17 := hf (17, .slice A1 (n + 1) c1) (by simp)
      have f18 := hf (18, .slice A2 (n + 1) c2) (by simp)
      have f19 := hf (19, .int .i64 (a : Nat)) (by simp)
      have f20 := hf (20, .int .i64 (r : Nat)) (by simp)
      have f100 := hf (100, .bool false) (by simp)
      dsimp only at f0 f1 f2 f3 f16 f17 f18 f19 f20 f100
      rw [f0, f1, f2, f3, f16, f17, f18, f19, f20, f100]
      clear hf ha f0 f1 f2 f3 f16 f17 f18 f19 f20 f100
      go_wp2_with fail
      go_ret
      exact ⟨rfl, HF.out⟩
end lawLogKeeps
end Go.Proofs.YthfbjfocmnikaaaGreatDoor
/- leaflaw3.LogKeeps, its first part: one op that is safe, one that is not. Conditions: none of our own. -/
namespace Go.Proofs.YthfbjfocmnikaaaGreatDoor
open Go.RowKit
set_option linter.unusedVariables false
namespace lawLogKeepsA
def o1 : LOp := ⟨⟨1, 1⟩, 1, ⟨#[110, 98]⟩, 104, []⟩
def o2 : LOp := ⟨⟨1, 2⟩, 1, ⟨#[111, 98]⟩, 104, []⟩
theorem facts : LLog.new.putE o1 = 0 ∧ LLog.new.putB o1 = true ∧ (LLog.new.put o1).syncE = 0 ∧ ((LLog.new.put o1).sync).putE o2 = 0 ∧ textOf ((((LLog.new.put o1).sync).put o2).crash 0).doc.book = ⟨#[104]⟩ := by decide +kernel
/-- Where the code stands at region n. -/
def headAt (n : Nat) : Code → Bool
  | .region k _ _ => k == n
  | .seq a _ => headAt n a
  | _ => false
def fromAt (n : Nat) : Code → Option Code
  | .seq a b => if headAt n a then some (.seq a b) else match fromAt n a with
    | some c => some c
    | none => fromAt n b
  | .block _ c => fromAt n c
  | .loop c => fromAt n c
  | .scope c => fromAt n c
  | _ => none
noncomputable def tailCode : Code := ((Tryz.f3.body.bind (fromAt 11)).getD .skip)
/-- What is left of the law behind its first part, whatever the other slots hold. -/
def TailAt (w : World) (p0 p1 p2 p3 : Value) (wc : World) : Prop := ∀ (v4 v5 v6 v7 v8 v9 v10 v11 v12 v13 v14 v15 v16 v17 v18 v19 v20 v21 v22 v23 v24 v25 v26 v27 v28 v29 v30 v31 v32 v33 v34 v35 v36 v37 v38 v39 v40 v41 v42 v43 v44 v45 v46 v47 v48 v49 v50 v51 v52 v53 v54 v55 v56 v57 v58 v59 v60 v61 v62 v63 v64 v65 v66 v67 v68 v69 v70 v71 v72 v73 v74 v75 v76 v77 v78 v79 v80 v81 v82 v83 v84 v85 v86 v87 v88 v89 v90 v91 v92 v93 v94 v95 v96 v97 v98 v99 v100 v101 v102 v103 v104 v105 v106 v107 v108 v109 v110 v111 v112 v113 v114 v115 v116 v117 v118 v119 v120 v121 v122 v123 v124 v125 v126 v127 v128 v129 v130 v131 v132 v133 v134 v135 v136 v137 v138 v139 v140 v141 v142 v143 v144 v145 v146 v147 v148 v149 v150 v151 v152 v153 v154 v155 v156 v157 v158 v159 v160 v161 v162 v163 v164 v165 v166 v167 v168 v169 v170 v171 v172 v173 v174 v175 v176 v177 v178 v179 v180 v181 v182 v183 v184 v185 v186 v187 v188 v189 v190 v191 v192 v193 v194 v195 v196 v197 v198 v199 v200 v201 v202 v203 v204 v205 v206 v207 v208 v209 v210 v211 v212 v213 v214 v215 v216 v217 v218 v219 v220 v221 v222 v223 v224 v225 v226 v227 v228 v229 v230 v231 v232 v233 v234 v235 v236 v237 v238 v239 v240 v241 v242 v243 v244 v245 v246 v247 v248 v249 v250 v251 v252 v253 v254 v255 v256 v257 v258 v259 v260 v261 v262 v263 v264 v265 v266 v267 v268 v269 v270 v271 v272 v273 v274 v275 v276 v277 v278 v279 v280 v281 v282 v283 v284 v285 v286 v287 v288 v289 v290 v291 v292 v293 v294 v295 v296 v297 v298 v299 v300 v301 v302 v303 v304 v305 v306 v307 v308 v309 v310 v311 v312 v313 v314 v315 v316 v317 v318 v319 v320 v321 v322 v323 v324 v325 v326 v327 v328 v329 v330 v331 v332 v333 v334 v335 v336 v337 : Value), Code.wp Tryz.prog tailCode (bodyPost Tryz.prog Tryz.f3 (CheckPost w (.bool true))) ⟨#[p0, p1, p2, p3, v4, v5, v6, v7, v8, v9, v10, v11, v12, v13, v14, v15, v16, v17, v18, v19, v20, v21, v22, v23, v24, v25, v26, v27, v28, v29, v30, v31, v32, v33, v34, v35, v36, v37, v38, v39, v40, v41, v42, v43, v44, v45, v46, v47, v48, v49, v50, v51, v52, v53, v54, v55, v56, v57, v58, v59, v60, v61, v62, v63, v64, v65, v66, v67, v68, v69, v70, v71, v72, v73, v74, v75, v76, v77, v78, v79, v80, v81, v82, v83, v84, v85, v86, v87, v88, v89, v90, v91, v92, v93, v94, v95, v96, v97, v98, v99, v100, v101, v102, v103, v104, v105, v106, v107, v108, v109, v110, v111, v112, v113, v114, v115, v116, v117, v118, v119, v120, v121, v122, v123, v124, v125, v126, v127, v128, v129, v130, v131, v132, v133, v134, v135, v136, v137, v138, v139, v140, v141, v142, v143, v144, v145, v146, v147, v148, v149, v150, v151, v152, v153, v154, v155, v156, v157, v158, v159, v160, v161, v162, v163, v164, v165, v166, v167, v168, v169, v170, v171, v172, v173, v174, v175, v176, v177, v178, v179, v180, v181, v182, v183, v184, v185, v186, v187, v188, v189, v190, v191, v192, v193, v194, v195, v196, v197, v198, v199, v200, v201, v202, v203, v204, v205, v206, v207, v208, v209, v210, v211, v212, v213, v214, v215, v216, v217, v218, v219, v220, v221, v222, v223, v224, v225, v226, v227, v228, v229, v230, v231, v232, v233, v234, v235, v236, v237, v238, v239, v240, v241, v242, v243, v244, v245, v246, v247, v248, v249, v250, v251, v252, v253, v254, v255, v256, v257, v258, v259, v260, v261, v262, v263, v264, v265, v266, v267, v268, v269, v270, v271, v272, v273, v274, v275, v276, v277, v278, v279, v280, v281, v282, v283, v284, v285, v286, v287, v288, v289, v290, v291, v292, v293, v294, v295, v296, v297, v298, v299, v300, v301, v302, v303, v304, v305, v306, v307, v308, v309, v310, v311, v312, v313, v314, v315, v316, v317, v318, v319, v320, v321, v322, v323, v324, v325, v326, v327, v328, v329, v330, v331, v332, v333, v334, v335, v336, v337], []⟩ wc
theorem TailAt.use {w : World} {p0 p1 p2 p3 : Value} {wc : World} (h : TailAt w p0 p1 p2 p3 wc) {v4 v5 v6 v7 v8 v9 v10 v11 v12 v13 v14 v15 v16 v17 v18 v19 v20 v21 v22 v23 v24 v25 v26 v27 v28 v29 v30 v31 v32 v33 v34 v35 v36 v37 v38 v39 v40 v41 v42 v43 v44 v45 v46 v47 v48 v49 v50 v51 v52 v53 v54 v55 v56 v57 v58 v59 v60 v61 v62 v63 v64 v65 v66 v67 v68 v69 v70 v71 v72 v73 v74 v75 v76 v77 v78 v79 v80 v81 v82 v83 v84 v85 v86 v87 v88 v89 v90 v91 v92 v93 v94 v95 v96 v97 v98 v99 v100 v101 v102 v103 v104 v105 v106 v107 v108 v109 v110 v111 v112 v113 v114 v115 v116 v117 v118 v119 v120 v121 v122 v123 v124 v125 v126 v127 v128 v129 v130 v131 v132 v133 v134 v135 v136 v137 v138 v139 v140 v141 v142 v143 v144 v145 v146 v147 v148 v149 v150 v151 v152 v153 v154 v155 v156 v157 v158 v159 v160 v161 v162 v163 v164 v165 v166 v167 v168 v169 v170 v171 v172 v173 v174 v175 v176 v177 v178 v179 v180 v181 v182 v183 v184 v185 v186 v187 v188 v189 v190 v191 v192 v193 v194 v195 v196 v197 v198 v199 v200 v201 v202 v203 v204 v205 v206 v207 v208 v209 v210 v211 v212 v213 v214 v215 v216 v217 v218 v219 v220 v221 v222 v223 v224 v225 v226 v227 v228 v229 v230 v231 v232 v233 v234 v235 v236 v237 v238 v239 v240 v241 v242 v243 v244 v245 v246 v247 v248 v249 v250 v251 v252 v253 v254 v255 v256 v257 v258 v259 v260 v261 v262 v263 v264 v265 v266 v267 v268 v269 v270 v271 v272 v273 v274 v275 v276 v277 v278 v279 v280 v281 v282 v283 v284 v285 v286 v287 v288 v289 v290 v291 v292 v293 v294 v295 v296 v297 v298 v299 v300 v301 v302 v303 v304 v305 v306 v307 v308 v309 v310 v311 v312 v313 v314 v315 v316 v317 v318 v319 v320 v321 v322 v323 v324 v325 v326 v327 v328 v329 v330 v331 v332 v333 v334 v335 v336 v337 : Value} : Code.wp Tryz.prog tailCode (bodyPost Tryz.prog Tryz.f3 (CheckPost w (.bool true))) ⟨#[p0, p1, p2, p3, v4, v5, v6, v7, v8, v9, v10, v11, v12, v13, v14, v15, v16, v17, v18, v19, v20, v21, v22, v23, v24, v25, v26, v27, v28, v29, v30, v31, v32, v33, v34, v35, v36, v37, v38, v39, v40, v41, v42, v43, v44, v45, v46, v47, v48, v49, v50, v51, v52, v53, v54, v55, v56, v57, v58, v59, v60, v61, v62, v63, v64, v65, v66, v67, v68, v69, v70, v71, v72, v73, v74, v75, v76, v77, v78, v79, v80, v81, v82, v83, v84, v85, v86, v87, v88, v89, v90, v91, v92, v93, v94, v95, v96, v97, v98, v99, v100, v101, v102, v103, v104, v105, v106, v107, v108, v109, v110, v111, v112, v113, v114, v115, v116, v117, v118, v119, v120, v121, v122, v123, v124, v125, v126, v127, v128, v129, v130, v131, v132, v133, v134, v135, v136, v137, v138, v139, v140, v141, v142, v143, v144, v145, v146, v147, v148, v149, v150, v151, v152, v153, v154, v155, v156, v157, v158, v159, v160, v161, v162, v163, v164, v165, v166, v167, v168, v169, v170, v171, v172, v173, v174, v175, v176, v177, v178, v179, v180, v181, v182, v183, v184, v185, v186, v187, v188, v189, v190, v191, v192, v193, v194, v195, v196, v197, v198, v199, v200, v201, v202, v203, v204, v205, v206, v207, v208, v209, v210, v211, v212, v213, v214, v215, v216, v217, v218, v219, v220, v221, v222, v223, v224, v225, v226, v227, v228, v229, v230, v231, v232, v233, v234, v235, v236, v237, v238, v239, v240, v241, v242, v243, v244, v245, v246, v247, v248, v249, v250, v251, v252, v253, v254, v255, v256, v257, v258, v259, v260, v261, v262, v263, v264, v265, v266, v267, v268, v269, v270, v271, v272, v273, v274, v275, v276, v277, v278, v279, v280, v281, v282, v283, v284, v285, v286, v287, v288, v289, v290, v291, v292, v293, v294, v295, v296, v297, v298, v299, v300, v301, v302, v303, v304, v305, v306, v307, v308, v309, v310, v311, v312, v313, v314, v315, v316, v317, v318, v319, v320, v321, v322, v323, v324, v325, v326, v327, v328, v329, v330, v331, v332, v333, v334, v335, v336, v337], []⟩ wc := by
  unfold TailAt at h
  apply h
/-- A log, and beside it an op in a block of its own. -/
def LB (w : World) (b ga : Nat) (L : LLog) (cs : Array Value) (W : World) : Prop := LK w w.heap.size b L [ga] W ∧ Blk W ga 30 cs ∧ w.heap.size ≤ ga
namespace LB
variable {w W w' : World} {b ga : Nat} {L L' : LLog} {cs : Array Value}
theorem below (h : LB w b ga L cs W) : Below w.heap.size w W := h.1.below
theorem off (h : LB w b ga L cs W) (hL : LK w w.heap.size b L' [ga] w') (ho : Off w.heap.size [ga] W w') : LB w b ga L' cs w' := by
  obtain ⟨T, h1, h2⟩ := ho
  exact ⟨hL, h1.blk h.2.1 (fun hm => (h2 ga hm).2 (by simp)), h.2.2⟩
theorem step (h : LB w b ga L cs W) (hb : Below W.heap.size W w') : LB w b ga L cs w' := h.off (h.1.step hb) (Off.of_below hb)
theorem cell (h : LB w b ga L cs W) (i : Nat) : W.cell? ⟨ga, i, none⟩ = cs[i]? := h.2.1.cell i
theorem set (h : LB w b ga L cs W) (i : Nat) (u : Value) : LB w b ga L (cs.setIfInBounds i u) (W.setCell ⟨ga, i, none⟩ u) := by
  have ho : Only [ga] W (W.setCell ⟨ga, i, none⟩ u) := (Only.refl _ _).setCell (.inl (by simp)) _
  exact ⟨h.1.go ho (fun g hg => ⟨hg, by simp at hg; subst hg; exact h.2.2⟩) (fun g hg => .inl hg), h.2.1.set_ i u, h.2.2⟩
theorem put (h : LB w b ga L cs W) (o : LOp) (hs : o.seen = []) (hp : o.place.size ≤ 9223372036854775807) :
    Calls Tryz.prog 10 #[.pointer (some ⟨b, 0, none⟩), o.val none 0] W (fun e w' => e = .returned (.tuple #[.bool (L.putB o), errV (L.putE o)]) ∧ LB w b ga (L.put o) cs w') :=
  (h.1.put0 o hs hp).mono fun e w' hh => ⟨hh.1, h.off hh.2.1 hh.2.2⟩
theorem sync (h : LB w b ga L cs W) : Calls Tryz.prog 11 #[.pointer (some ⟨b, 0, none⟩)] W (fun e w' => e = .returned (errV L.syncE) ∧ LB w b ga L.sync cs w') :=
  h.1.sync.mono fun e w' hh => ⟨hh.1, h.off hh.2.1 hh.2.2⟩
theorem crash (h : LB w b ga L cs W) (k : Int) (h0 : -9223372036854775808 ≤ k) (h1 : k ≤ 9223372036854775807) : Calls Tryz.prog 12 #[.pointer (some ⟨b, 0, none⟩), .int .i64 k] W (fun e w' => e = .returned (.tuple #[]) ∧ LB w b ga (L.crash k) cs w') :=
  (h.1.crash k h0 h1).mono fun e w' hh => ⟨hh.1, h.off hh.2.1 hh.2.2⟩
end LB
set_option maxRecDepth 100000 in
set_option maxHeartbeats 8000000 in
theorem walk (w : World) (p0 p1 p2 p3 : Value) (htail : ∀ (wc : World), Below w.heap.size w wc → TailAt w p0 p1 p2 p3 wc) :
    Calls Tryz.prog 3 #[p0, p1, p2, p3] w (CheckPost w (.bool true)) := by
  have HN := Lib.hid (lnew_any w)
  have HT := Lib.hid htail
  clear htail
  have HE0 : errV 0 = .nilIface := rfl
  go_enter Tryz.func3, Tryz.ntmps3
  go_wp2_with fail
  refine HN.out.mono ?_
  intro e w1 hpost
  obtain ⟨b, rfl, hlk⟩ := LK.make (Below.refl _ _) hpost
  have HL1 := Lib.hid hlk
  clear hpost hlk HN
  go_upto_region 3 with (fail)
  obtain ⟨WA, hWA⟩ : ∃ WA, WA = w1.alloc (.cells #[.int .i64 1, .int .i64 1, .int .i64 1, .string ⟨#[110, 98]⟩, .int .i64 104, .slice none 0 0] 30) := ⟨_, rfl⟩
  obtain ⟨ga, hga⟩ : ∃ ga, ga = w1.heap.size := ⟨_, rfl⟩
  have HA : Hid (LB w b ga LLog.new (o1.cells none 0) WA) := by
    have hbw : Below w1.heap.size w1 WA := by rw [hWA]; exact (Below.refl _ _).alloc (Nat.le_refl _) _
    refine ⟨HL1.out.go (T := []) (Only.of_below hbw) (by simp) (fun g hg => .inr ?_), ?_, ?_⟩
    · simp at hg
      rw [hg, hga, hWA]
      exact ⟨Nat.le_refl _, by simp⟩
    · rw [hga, hWA]
      exact Blk.new w1 _ _
    · rw [hga]; exact HL1.out.below.size
  rw [← hWA, ← hga]
  have HCEL : Hid (∀ L W p n, LB w b ga L #[.int .i64 1, .int .i64 n, .int .i64 1, .string p, .int .i64 104, .slice none 0 0] W → W.cell? ⟨ga, 0, none⟩ = some (.int .i64 1) ∧ W.cell? ⟨ga, 1, none⟩ = some (.int .i64 n) ∧ W.cell? ⟨ga, 2, none⟩ = some (.int .i64 1) ∧ W.cell? ⟨ga, 3, none⟩ = some (.string p) ∧ W.cell? ⟨ga, 4, none⟩ = some (.int .i64 104) ∧ W.cell? ⟨ga, 5, none⟩ = some (.slice none 0 0) ∧ (∀ i, W.frozen? ⟨ga, i, none⟩ = false)) :=
    fun L W p n h => ⟨h.cell 0, h.cell 1, h.cell 2, h.cell 3, h.cell 4, h.cell 5, fun i => h.2.1.frozen i⟩
  clear hWA hga HL1
  obtain ⟨F1, F2, F3, F4, F5⟩ := facts
  have HF5 := Lib.hid F5
  have HP1 := Lib.hid (HA.out.put o1 rfl (by decide))
  rw [F1, F2, HE0] at HP1
  obtain ⟨c0, c1, c2, c3, c4, c5, _⟩ := HCEL.out _ _ _ _ HA.out
  clear F1 F2 F5
  go_wp2_with fail
  refine HP1.out.mono ?_
  rintro e w3 ⟨rfl, h3⟩
  have H3 := Lib.hid h3
  have HS := Lib.hid h3.sync
  rw [F3, HE0] at HS
  clear h3 HP1 HA c0 c1 c2 c3 c4 c5 F3
  go_wp2_with fail
  refine HS.out.mono ?_
  rintro e w4 ⟨rfl, h4⟩
  have H4 := Lib.hid h4
  generalize hL2 : (LLog.new.put o1).sync = L2 at *
  have H6 : Hid (LB w b ga L2 (o2.cells none 0) ((w4.setCell ⟨ga, 1, none⟩ (.int .i64 2)).setCell ⟨ga, 3, none⟩ (.string ⟨#[111, 98]⟩))) := by
    have := (h4.set 1 (.int .i64 2)).set 3 (.string ⟨#[111, 98]⟩)
    exact this
  have H5 := Lib.hid (h4.set 1 (.int .i64 2))
  obtain ⟨c0, c1, c2, c3, c4, c5, cf⟩ := HCEL.out _ _ _ _ h4
  have d3 := (HCEL.out _ _ _ _ H5.out).2.2.2.1
  have df := (HCEL.out _ _ _ _ H5.out).2.2.2.2.2.2 3
  have f1 := cf 1
  clear h4 HS H3 hL2 cf
  go_upto_region 7 with (fail)
  obtain ⟨W6, hW6⟩ : ∃ W6, W6 = (w4.setCell ⟨ga, 1, none⟩ (.int .i64 2)).setCell ⟨ga, 3, none⟩ (.string ⟨#[111, 98]⟩) := ⟨_, rfl⟩
  rw [← hW6] at H6
  rw [← hW6]
  clear hW6 c0 c1 c2 c3 c4 c5 d3 df f1 H5 H4
  obtain ⟨c0, c1, c2, c3, c4, c5, _⟩ := HCEL.out _ _ _ _ H6.out
  have HP2 := Lib.hid (H6.out.put o2 rfl (by decide))
  rw [F4, HE0] at HP2
  obtain ⟨bb, hbb⟩ : ∃ bb, bb = L2.putB o2 := ⟨_, rfl⟩
  rw [← hbb] at HP2
  clear F4 hbb
  go_wp2_with fail
  refine HP2.out.mono ?_
  rintro e w7 ⟨rfl, h7⟩
  have HC := Lib.hid (h7.crash 0 (by omega) (by omega))
  clear h7 HP2 H6 c0 c1 c2 c3 c4 c5
  go_wp2_with fail
  refine HC.out.mono ?_
  rintro e w8 ⟨rfl, h8⟩
  have H8 := Lib.hid h8
  have HD := Lib.hid h8.1.doc
  have HMS : Hid (((L2.put o2).crash 0).safe = ((L2.put o2).crash 0).m) := rfl
  generalize (L2.put o2).crash 0 = L4 at *
  clear h8 HC
  go_wp2_with fail
  refine HD.out.mono ?_
  rintro e w9 ⟨bd, SD, D, rfl, hw, hdoc, hok⟩
  obtain rfl := hw.symm
  have HTX := Lib.hid (text_doc w8 _ SD bd _ D hdoc hok)
  rw [HF5.out] at HTX
  clear hw hdoc hok HD
  go_wp2_with fail
  refine HTX.out.mono ?_
  rintro e w10 ⟨rfl, h10⟩
  have H10 := Lib.hid (H8.out.step h10)
  have HBY := Lib.hid H10.out.1.bytes
  have HSF := Lib.hid H10.out.1.safe
  rw [HMS.out] at HSF
  have HB10 := Lib.hid H10.out.below
  generalize L4.m = mm at *
  clear h10 H8 HTX HMS H10
  go_wp2_with fail
  refine HBY.out.mono ?_
  rintro e w11 ⟨rfl, hw⟩
  obtain rfl := hw.symm
  clear hw HBY
  go_wp2_with fail
  refine HSF.out.mono ?_
  rintro e w11 ⟨rfl, hw⟩
  obtain rfl := hw.symm
  clear hw HSF
  go_upto_if 88 with (fail)
  go_cut [] (fun wx => Hid (Below w.heap.size w wx))
  case first =>
    go_wp2_with fail
    go_meet
    case rel => exact HB10
  case rest =>
  rename_i hK
  exact hK _ _ (HT.out wc hcut.out).use
end lawLogKeepsA
end Go.Proofs.YthfbjfocmnikaaaGreatDoor
/- Arguments opened: texts, numbers. Plain lemmas. Conditions: none of our own. -/
namespace Go.Proofs.YthfbjfocmnikaaaGreatDoor
open Go.RowKit Go.WideShapes Go.ChangeShapes Go.Deep
set_option linter.unusedVariables false
theorem cellsFInt : Tryz.prog.cellsOf 3 = 1 := by kernel_rfl
section
variable {H : Type} {enc : TypeId × Value → H} {w : World} {base : Nat} {spare : Nat → Bool} {held : Bool}
theorem flat_one {α : Type} (f : α → Value) (l : List α) : l.flatMap (fun x => [f x]) = l.map f := by
  induction l with
  | nil => rfl
  | cons x l ih => simp [List.flatMap_cons, ih]
set_option maxRecDepth 100000 in
theorem arg_ints {r : Reach} {b0 : Nat} {v : Value} {d : DataW H} {p : List MemPlace} (hv : Value.okWide Tryz.prog w r b0 23 v) (h : DataW.Trod enc Tryz.prog w base spare held 23 v d p) :
    ∃ (A : Option Addr) (cap : Nat) (l : List Int), v = .slice A l.length cap ∧ Reads w w.heap.size 1 A l.length (l.map (Value.int .i64)) ∧ (∀ y ∈ l, I64 y) ∧ l.length ≤ cap ∧ cap ≤ maxLen := by
  obtain ⟨a, len, c, rfl⟩ := okWide_slice Tryz.underlying23 hv
  obtain ⟨fuel, hf⟩ := h
  obtain ⟨A, cap, l, e, hr, h2⟩ := open_list (α := Int) (fun s => [.int .i64 s]) I64 Tryz.underlying23 cellsFInt (by decide) (fun _ => rfl) (fun _ cs _ h => by
    obtain ⟨s, e, _, hs⟩ := DataW.trod_int Tryz.underlying3 h
    exact ⟨s, e, i64_of_wf hs⟩) hf
  rw [flat_one] at hr
  refine ⟨A, cap, l, ?_, hr, h2⟩
  have e' : [Value.slice a len c] = [.slice A l.length cap] := e
  injection e'
end
end Go.Proofs.YthfbjfocmnikaaaGreatDoor
/- leaflaw3.LogKeeps, proved: behind a crash there is the book of as many ops as are whole among the bytes that are left; what stopped did nothing. Conditions: the library's one variable holds what its text lays (the card ties it). -/
namespace Go.Proofs.YthfbjfocmnikaaaGreatDoor
open Go.RowKit Go.WideShapes Go.ChangeShapes Go.ChangeAt
set_option linter.unusedVariables false
namespace lawLogKeeps
set_option maxRecDepth 100000 in
theorem walk (w : World) (A : Option Addr) (cA : Nat) (ys : List OpAt) (B1 : Option Addr) (d1 : Nat) (sy : List Int) (B2 : Option Addr) (d2 : Nat) (fl : List Int) (B3 : Option Addr) (d3 : Nat) (kp : List Int) (hglob : Glob w)
    (hr : Reads w w.heap.size 6 A ys.length (ocells ys)) (hnl : ys.length ≤ 9223372036854775807) (hg : ∀ y ∈ ys, y.Good w)
    (hsy : Reads w w.heap.size 1 B1 sy.length (ints sy)) (hns : sy.length ≤ 9223372036854775807)
    (hfl : Reads w w.heap.size 1 B2 fl.length (ints fl)) (hnf : fl.length ≤ 9223372036854775807) (hfr : ∀ x ∈ fl, -9223372036854775808 ≤ x ∧ x ≤ 9223372036854775807)
    (hkp : Reads w w.heap.size 1 B3 kp.length (ints kp)) (hnk : kp.length ≤ 9223372036854775807) (hkr : ∀ x ∈ kp, -9223372036854775808 ≤ x ∧ x ≤ 9223372036854775807) :
    Calls Tryz.prog 3 #[.slice A ys.length cA, .slice B1 sy.length d1, .slice B2 fl.length d2, .slice B3 kp.length d3] w (CheckPost w (.bool true)) := by
  refine lawLogKeepsA.walk w _ _ _ _ (fun wc hb => ?_)
  unfold lawLogKeepsA.TailAt
  intros
  exact tail w wc hglob hb A cA ys hr hg hnl B1 d1 sy hsy hns B2 d2 fl hfl hfr hnf B3 d3 kp hkp hkr hnk
set_option maxRecDepth 100000 in
theorem lifted (os : Os) (started : os.Started) (H : Type) (enc : TypeId × Value → H) :
    ReturnsInHanded {} Tryz.checked os 3 .any (fun w args => (Rows.logKeepsSpec.pre enc Tryz.prog Tryz.f3 [] false w args ∧ laidMetH Tryz.prog Card.laid w) ∧ sizedMet enc Tryz.prog Tryz.f3 (OpenSpec.ofChange Rows.logKeepsSpec) false w args)
      (Rows.logKeepsSpec.post enc Tryz.prog Tryz.f3 false true false false) := by
  refine returnsInHanded_of_change_and (C := Tryz.checked) (X := fun w _ => laidMetH Tryz.prog Card.laid w) (fun _ _ _ hh h => h.of_heap hh) Tryz.own started (by kernel_rfl) Tryz.func3
    (ChangeSpec.witness_at (enc := enc) (C := Tryz.checked) (os := os) (X := fun w _ => laidMetH Tryz.prog Card.laid w) false (Card.laidWorld os) #[.slice none 0 0, .slice none 0 0, .slice none 0 0, .slice none 0 0] 8 rfl (by kernel_rfl) (by kernel_rfl) (by kernel_rfl) (by kernel_rfl) (by kernel_rfl) (Card.laidWorld_met os _)) ?_
  intro W base args ds gs before hval0 hW _ hsz0 hL _
  have hval : ∀ (j : Nat) t v, Tryz.f3.params[j]? = some t → args[j]? = some v → Value.okWide Tryz.prog W .any base t v := hval0
  obtain ⟨p, q, hA0, _⟩ := id hW
  have hA : DataW.TrodAll enc Tryz.prog W 0 (fun _ => true) true Tryz.f3.params.toList args.toList ds p := hA0
  have hsz : (DataW.weightsEach Tryz.prog (Tryz.f3.params.toList ++ Rows.logKeepsSpec.plain.varTypes Tryz.prog) (ds ++ gs)).all (· ≤ reachBytes) = true := hsz0
  rw [Tryz.params3] at hA hval hsz
  obtain ⟨v0, v1, v2, v3, d0, d1, d2, d3, p0, p1, p2, p3, rfl, rfl, rfl, h0, h1, h2, h3⟩ := trodAll_four hA
  obtain ⟨A0, c0, l0, rfl, r0, g0, lc0, cm0⟩ := arg_ops (hval 0 22 v0 rfl rfl) h0
  obtain ⟨A1, c1, l1, rfl, r1, g1, lc1, cm1⟩ := arg_ints (hval 1 23 v1 rfl rfl) h1
  obtain ⟨A2, c2, l2, rfl, r2, g2, lc2, cm2⟩ := arg_ints (hval 2 23 v2 rfl rfl) h2
  obtain ⟨A3, c3, l3, rfl, r3, g3, lc3, cm3⟩ := arg_ints (hval 3 23 v3 rfl rfl) h3
  refine (walk W A0 c0 l0 A1 c1 l1 A2 c2 l2 A3 c3 l3 (Card.glob_of_laid hL) r0 (by unfold maxLen at cm0; omega) g0 r1 (by unfold maxLen at cm1; omega) r2 (by unfold maxLen at cm2; omega) (fun x hx => g2 x hx) r3 (by unfold maxLen at cm3; omega) (fun x hx => g3 x hx)).mono fun e W' ⟨he, hb⟩ => ⟨_, he, ?_⟩
  exact law_post Tryz.laidOut (tb := 4) (by kernel_rfl) Tryz.underlying4 (by rw [Tryz.params3]; simp only [List.mem_cons, List.not_mem_nil, or_false]; rintro t (rfl | rfl | rfl | rfl) <;> exact ⟨by kernel_rfl, of_decide_eq_true (by kernel_rfl)⟩) rfl rfl hW hb

theorem holds : Rows.LogKeepsSaid :=
  OpenClaim.holds_of_wide 3 Tryz.f3 rfl rfl rfl rfl rfl rfl rfl ⟨rfl, rfl, rfl, rfl, rfl⟩ rfl rfl rfl rfl rfl (by kernel_rfl) Tryz.func3 (by kernel_rfl)
    (of_decide_eq_true (by kernel_rfl)) (by unfold Func.isWrapper; first | (rw [if_pos (by decide +kernel)]; kernel_rfl) | (rw [if_neg (by decide +kernel)]; exact ⟨rfl, rfl⟩))
    (fun os started H enc _ => lifted os started H enc)
theorem noStand : ∀ t ∈ Tryz.f3.params.toList, Tryz.prog.wantsStandIn t = false := by
  rw [Tryz.params3]
  simp only [List.mem_cons, List.not_mem_nil, or_false]
  rintro t (rfl | rfl | rfl | rfl) <;> kernel_rfl
theorem card_holds : Rows.LogKeepsCardSaid :=
  Claim7.holds_tied_plain_at .later [] [.handle] true Rows.logKeepsCard.stood.harness true
    holds (fun _ h => by cases h) (by kernel_rfl) (fun _ h => by cases h) logKeeps_row_tie rfl ⟨rfl, rfl⟩ (by kernel_rfl) rfl
    (fun f fn hf hfn => by
      obtain rfl : f = 3 := Option.some.inj ((show Tryz.prog.funcNamed Rows.logKeepsRow.func = some 3 by kernel_rfl).symm.trans hf) |>.symm
      obtain rfl : fn = Tryz.f3 := (Option.some.inj (Tryz.func3.symm.trans hfn)).symm
      exact ⟨by kernel_rfl, fun j t ht => noStand t (by
        have := Array.mem_of_getElem? ht
        simpa using this)⟩)
    (by kernel_rfl)
#print axioms card_holds
end lawLogKeeps
end Go.Proofs.YthfbjfocmnikaaaGreatDoor

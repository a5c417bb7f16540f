/- 5 texts in one: each says ahead of itself what is proved, and its conditions. -/
import Derived.Below
import Derived.ChangeSame
import Derived.ChangeVars
import Derived.Deep.RegionHeld3
import Derived.JoinedOf
import Derived.LaidEql
import Derived.LaidHandle
import Derived.LaidLaws
import Derived.ProofKit
import Derived.RowKit
import Derived.RowKitTokens
import Derived.SevenTiedAt
import Derived.SizedLaws
import Derived.Stop.Asserts
import Derived.Test.YtngalkmmpjegkaaGreatDoorCards
import Derived.Test.YtngalkmmpjegkaaGreatDoorRows
import Derived.Test.YtngalkmmpjegkaaGreatDoorTie
import Derived.WalkKit
import Derived.Test.YtngalkmmpjegkaaGreatDoorBackDone
import Derived.Test.YtngalkmmpjegkaaGreatDoorPlaceCheck
/- From a walk to a given statement: one theorem that serves every law of the seat. Conditions: none of our own. -/
namespace Go.Proofs.YtngalkmmpjegkaaGreatDoor
open Go.RowKit Go.WideShapes Go.ChangeShapes Go.ChangeAt
set_option linter.unusedVariables false

section
variable {H : Type} {enc : TypeId × Value → H} {P : Program}

theorem post_of_below {f : Func} {s : ChangeSpec} {apart fresh handsOn again : Bool} {W W' : World} {args : Array Value} {v : Value} {ds gs : List (DataW H)} {before pa pv : List MemPlace}
    (hW : DataW.Whole enc P f.params.toList s.vars apart W args.toList ds gs before)
    (hres : ∀ (b : Nat) (sp : Nat → Bool) (hd : Bool), DataW.TrodAll enc P W' b sp hd f.resultTypes.toList (v.resultList f.resultTypes.size) (s.fn H (ds ++ gs)).results [])
    (hargs : ∀ sp : Nat → Bool, (∀ p ∈ before, sp p.block = true) → DataW.TrodAll enc P W' 0 sp true f.params.toList args.toList (s.fn H (ds ++ gs)).args pa)
    (hvars : ∀ sp : Nat → Bool, (∀ p ∈ before, sp p.block = true) → DataW.TrodVars enc P W' sp s.vars (s.fn H (ds ++ gs)).vars pv)
    (hps : before = pa ++ pv) (hb : Below W.heap.size W W')
    (hok : ∀ (j : Nat) (t : TypeId) (r : Value), f.resultTypes[j]? = some t → (v.resultList f.resultTypes.size)[j]? = some r → Value.okWide P W' .any 0 t r) :
    s.post enc P f apart fresh handsOn again W args v W' := by
  have hlt : ∀ p ∈ before, p.block < W.heap.size := fun p hp => hW.lt p hp
  have hold : ∀ p ∈ before, (fun b => decide (b < W.heap.size)) p.block = true := fun p hp => by simpa using hlt p hp
  refine ⟨ds, gs, before, [], pa, pv, hW, hres _ _ _, hargs _ hold, hvars _ hold, World.keptBut_mono (fun p hp => ⟨hp, ?_⟩) (hb.frame (· ∈ before)), fun _ => ?_⟩
  · rw [hps, List.mem_append] at hp
    exact Or.inr hp
  · obtain ⟨_, _, _, _, _, hz, hn⟩ := hW
    refine ⟨hok, _, _, ([] ++ pa) ++ pv, ⟨[] ++ pa, pv, trodAll_append (hargs _ (fun _ _ => rfl)) (hres _ _ _), hvars _ (fun _ _ => rfl), rfl, ?_, ?_⟩, ?_⟩
    · intro b off hp
      have hin : MemPlace.cell b off ∈ before := by rw [hps]; simpa using hp
      rw [hb.frozen (hlt _ hin)]
      exact hz b off hin
    · intro ha
      have := hn ha
      rw [hps] at this
      simpa using this
    · intro p hp _
      rw [hps]
      simpa using hp

theorem trodAll_below (hl : laidOutB P = true) {W W' : World} (hb : Below W.heap.size W W') {sp : Nat → Bool} :
    ∀ (ts : List TypeId) (vs : List Value) (ds : List (DataW H)) (ps : List MemPlace), (∀ t ∈ ts, P.readableRec t = true ∧ t < P.types.size) → (∀ p ∈ ps, p.block < W.heap.size) → (∀ p ∈ ps, sp p.block = true) →
      DataW.TrodAll enc P W 0 (fun _ => true) true ts vs ds ps → DataW.TrodAll enc P W' 0 sp true ts vs ds ps := by
  intro ts
  induction ts with
  | nil => intro vs ds ps _ _ _ h; cases vs <;> cases ds <;> simp_all [DataW.TrodAll]
  | cons t ts ih =>
    intro vs ds ps ht hlt hs h
    cases vs with
    | nil => simp [DataW.TrodAll] at h
    | cons v vs =>
      cases ds with
      | nil => simp [DataW.TrodAll] at h
      | cons d ds =>
        obtain ⟨p, q, h1, h2, rfl⟩ := h
        exact ⟨p, q, WideElems.Trod_stays hl (ht t (by simp)).1 (ht t (by simp)).2 h1 (fun x hx => hb.same (hlt x (by simp [hx]))) (fun x hx => hs x (by simp [hx])),
          ih vs ds q (fun t' h' => ht t' (by simp [h'])) (fun x hx => hlt x (by simp [hx])) (fun x hx => hs x (by simp [hx])) h2, rfl⟩

/-- A law: it answered true, and nothing that was there has turned. -/
theorem law_post (hl : laidOutB P = true) {f : Func} {s : ChangeSpec} {apart fresh handsOn again : Bool} {tb : TypeId} {W W' : World} {args : Array Value} {ds gs : List (DataW H)} {before : List MemPlace}
    (hr : f.resultTypes = #[tb]) (htb : P.underlying tb = some .bool) (hp : ∀ t ∈ f.params.toList, P.readableRec t = true ∧ t < P.types.size) (hv : s.vars = [])
    (hfn : s.fn H ds = { results := [.lit (.bool true)], args := ds })
    (hW : DataW.Whole enc P f.params.toList s.vars apart W args.toList ds gs before) (hb : Below W.heap.size W W') :
    s.post enc P f apart fresh handsOn again W args (.bool true) W' := by
  have hW' := hW
  obtain ⟨p, q, hA, hV, hpq, hfz, hnd⟩ := hW
  have hlt : ∀ x ∈ before, x.block < W.heap.size := fun x hx => hW'.lt x hx
  rw [hv] at hV
  obtain ⟨hgs, hq⟩ := trodVars_none hV
  subst hgs; subst hq
  simp only [List.append_nil] at hpq
  subst hpq
  refine post_of_below (pa := before) (pv := []) hW' ?_ ?_ ?_ (by simp) hb ?_
  · intro b sp hd
    rw [List.append_nil, hfn, hr]
    exact trodAll_mk1 (shut_bool htb _)
  · intro sp hs
    rw [List.append_nil, hfn]
    exact trodAll_below hl hb _ _ _ _ hp hlt hs hA
  · intro sp hs
    rw [List.append_nil, hfn, hv]
    exact rfl
  · exact ok_one hr rfl (okWide_bool_mk htb _)
end

theorem Tryz.own : ownKnob Tryz.prog.godebug = none := by kernel_rfl
theorem Tryz.laidOut : laidOutB Tryz.prog = true := by kernel_rfl
end Go.Proofs.YtngalkmmpjegkaaGreatDoor
/- errors.As at an Errno. Conditions: the library's one variable holds what its text lays. (After the guide's worked toy on errors.As.) -/
namespace Go.Proofs.YtngalkmmpjegkaaGreatDoor
open Go.RowKit Go.Extern.Stop Go.Stop Go.Extern
set_option linter.unusedVariables false
namespace As

theorem valueOfP (t : Addr) (w : World) : (ReflectliteValue.unpack (.iface 166 (.pointer (some t)))).run Tryz.prog w
    = .ok (.agg #[.pointer (some ⟨2, 166, none⟩), .pointer (some ⟨w.heap.size, 0, none⟩), .int .u64 150]) (w.alloc (.cells #[.pointer (some t)] 166)) := by kernel_rfl
theorem typeP (a : Addr) (w : World) : (ReflectliteValue.methodAny (ReflectliteValue.valueError "reflectlite.Value.Type" 0) (fun t _ _ _ => ReflectliteType.toType t) #[.agg #[.pointer (some ⟨2, 166, none⟩), .pointer (some a), .int .u64 150]]).run Tryz.prog w
    = .ok (.iface 227 (.agg #[.pointer (some ⟨2, 166, none⟩)])) w := by kernel_rfl
theorem kindP (w : World) : ((ReflectliteType.abiMethod fun t => (fun a : Nat => Value.int IntKind.u8 (a : Int)) <$> Rtype.kind t) #[.pointer (some ⟨2, 166, none⟩)]).run Tryz.prog w = .ok (.int .u8 22) w := by kernel_rfl
theorem kindE (w : World) : ((ReflectliteType.abiMethod fun t => (fun a : Nat => Value.int IntKind.u8 (a : Int)) <$> Rtype.kind t) #[.pointer (some ⟨2, 90, none⟩)]).run Tryz.prog w = .ok (.int .u8 2) w := by kernel_rfl
theorem rlm (z : Sem Value) (f : TypeId → Addr → Nat → Nat → Sem Value) (v : Value) :
    ReflectliteValue.method z f #[v] = (do match ← ReflectliteValue.parts v with | none => z | some (t, a, fl) => f t a fl (fl % 32)) := rfl
theorem partsP (a : Addr) (w : World) : (ReflectliteValue.parts (.agg #[.pointer (some ⟨2, 166, none⟩), .pointer (some a), .int .u64 150])).run Tryz.prog w = .ok (some (166, a, 150)) w := by kernel_rfl
theorem isNilP (a p : Addr) (W : World) (ha : W.cell? a = some (.pointer (some p))) :
    (ReflectliteValue.method (ReflectliteValue.valueError "reflectlite.Value.IsNil" 0) ReflectliteValue.isNil #[.agg #[.pointer (some ⟨2, 166, none⟩), .pointer (some a), .int .u64 150]]).run Tryz.prog W = .ok (.bool false) W := by
  rw [rlm]
  simp only [Sem.run_bind, partsP, Result.andThen]
  simp [ReflectliteValue.isNil, loadVar, isAgg, underlying, Tryz.underlying166, ha, Result.andThen]
theorem elemP (w : World) : (ReflectliteType.method ReflectliteType.elem #[.agg #[.pointer (some ⟨2, 166, none⟩)]]).run Tryz.prog w = .ok (.iface 227 (.agg #[.pointer (some ⟨2, 90, none⟩)])) w := by kernel_rfl
theorem implementsE (w : World) : (ReflectliteType.relation "Implements" ReflectliteType.implements_ #[.agg #[.pointer (some ⟨2, 90, none⟩)], .iface 227 (.agg #[.pointer (some ⟨2, 32, none⟩)])]).run Tryz.prog w = .ok (.bool true) w := by kernel_rfl
theorem typeOfE (v : Value) (w : World) : (ReflectliteType.typeOf #[.iface 90 v]).run Tryz.prog w = .ok (.iface 227 (.agg #[.pointer (some ⟨2, 90, none⟩)])) w := by kernel_rfl
theorem assignableE (w : World) : (ReflectliteType.relation "AssignableTo" ReflectliteType.assignableTo #[.agg #[.pointer (some ⟨2, 90, none⟩)], .iface 227 (.agg #[.pointer (some ⟨2, 90, none⟩)])]).run Tryz.prog w = .ok (.bool true) w := by kernel_rfl
theorem valueOfE (n : Int) (w : World) : (ReflectliteValue.unpack (.iface 90 (.int .i64 n))).run Tryz.prog w
    = .ok (.agg #[.pointer (some ⟨2, 90, none⟩), .pointer (some ⟨w.heap.size, 0, none⟩), .int .u64 130]) (w.alloc (.cells #[.int .i64 n] 90)) := by kernel_rfl
theorem elemOfP (w : World) : (Rtype.elem? 166).run Tryz.prog w = .ok (some 90) w := by kernel_rfl
theorem mkE (p : Addr) (w : World) : (ReflectliteValue.mk 90 p ReflectliteValue.flagAddr).run Tryz.prog w = .ok (.agg #[.pointer (some ⟨2, 90, none⟩), .pointer (some p), .int .u64 386]) w := by kernel_rfl
theorem elemVP (a p : Addr) (W : World) (ha : W.cell? a = some (.pointer (some p))) :
    (ReflectliteValue.method (ReflectliteValue.valueError "reflectlite.Value.Elem" 0) ReflectliteValue.elem #[.agg #[.pointer (some ⟨2, 166, none⟩), .pointer (some a), .int .u64 150]]).run Tryz.prog W
      = .ok (.agg #[.pointer (some ⟨2, 90, none⟩), .pointer (some p), .int .u64 386]) W := by
  rw [rlm]
  simp only [Sem.run_bind, partsP, Result.andThen]
  simp [ReflectliteValue.elem, loadVar, isAgg, underlying, Tryz.underlying166, ha, Result.andThen, elemOfP, mkE]
theorem methodKind (k : Nat) (h : Value) (w : World) : (Go.method (k + 3) 227 (.agg #[h]) "Kind").run Tryz.prog w = .ok (195, h) w := by kernel_rfl
theorem methodElem (k : Nat) (h : Value) (w : World) : (Go.method (k + 3) 227 (.agg #[h]) "Elem").run Tryz.prog w = .ok (205, .agg #[h]) w := by kernel_rfl
theorem methodImplements (k : Nat) (h : Value) (w : World) : (Go.method (k + 3) 227 (.agg #[h]) "Implements").run Tryz.prog w = .ok (206, .agg #[h]) w := by kernel_rfl
theorem methodAssignableTo (k : Nat) (h : Value) (w : World) : (Go.method (k + 3) 227 (.agg #[h]) "AssignableTo").run Tryz.prog w = .ok (203, .agg #[h]) w := by kernel_rfl
theorem partsEa (a : Addr) (w : World) : (ReflectliteValue.parts (.agg #[.pointer (some ⟨2, 90, none⟩), .pointer (some a), .int .u64 386])).run Tryz.prog w = .ok (some (90, a, 386)) w := by kernel_rfl
theorem partsE (a : Addr) (w : World) : (ReflectliteValue.parts (.agg #[.pointer (some ⟨2, 90, none⟩), .pointer (some a), .int .u64 130])).run Tryz.prog w = .ok (some (90, a, 130)) w := by kernel_rfl
theorem set_run (ta b : Addr) (W : World) :
    (ReflectliteValue.set #[.agg #[.pointer (some ⟨2, 90, none⟩), .pointer (some ta), .int .u64 386], .agg #[.pointer (some ⟨2, 90, none⟩), .pointer (some b), .int .u64 130]]).run Tryz.prog W
      = (do let val ← loadVar 90 b; storeVar 90 ta val; pure (.tuple #[]) : Sem Value).run Tryz.prog W := by kernel_rfl
theorem setE (ta b : Addr) (n : Int) (old : Value) (W : World) (hb : W.cell? b = some (.int .i64 n)) (ht : W.cell? ta = some old) (hf : W.frozen? ta = false) :
    (ReflectliteValue.set #[.agg #[.pointer (some ⟨2, 90, none⟩), .pointer (some ta), .int .u64 386], .agg #[.pointer (some ⟨2, 90, none⟩), .pointer (some b), .int .u64 130]]).run Tryz.prog W
      = .ok (.tuple #[]) (W.setCell ta (.int .i64 n)) := by
  rw [set_run]
  simp only [Sem.run_bind]
  simp [loadVar, isAgg, underlying, Tryz.underlying90, hb, Result.andThen, storeVar, Value.cells, storeCells, Addr.add]
  rw [run_store Tryz.prog W ta _ _ (by rfl)]
  simp [ht, hf]
theorem as_nil (t : Value) (w : World) : Calls Tryz.prog 95 #[.nilIface, t] w fun e w' => e = .returned (.bool false) ∧ w' = w := by
  go_enter Tryz.func95, Tryz.ntmps95
  go_wp2
  go_ret
  exact ⟨rfl, rfl⟩

set_option maxRecDepth 100000 in
set_option maxHeartbeats 4000000 in
theorem as_hit (n : Int) (t : Addr) (old : Value) (w : World) (hg : w.cell? ⟨0, 0, none⟩ = some (.iface 227 (.agg #[.pointer (some ⟨2, 32, none⟩)]))) (ht0 : w.cell? t = some old) (hf0 : w.frozen? t = false) :
    Calls Tryz.prog 95 #[.iface 90 (.int .i64 n), .iface 166 (.pointer (some t))] w fun ev w' => ev = .returned (.bool true) ∧ w' = ((((w.alloc (.cells #[.pointer (some t)] 166)).alloc (.cells #[.pointer (some ⟨2, 166, none⟩), .pointer (some ⟨w.heap.size, 0, none⟩), .int .u64 150] 200)).alloc (.cells #[.pointer (some ⟨2, 166, none⟩), .pointer (some ⟨w.heap.size, 0, none⟩), .int .u64 150] 200)).alloc (.cells #[.int .i64 n] 90)).setCell t (.int .i64 n) := by
  have hVO := @run_callFunc_extern Tryz.prog 127 _ (fun args => ReflectliteValue.unpack (args.getD 0 (.tuple #[]))) Tryz.func127 (by kernel_rfl) (by kernel_rfl) (by kernel_rfl) (by kernel_rfl)
  have hTy := @run_callFunc_extern Tryz.prog 128 _ (ReflectliteValue.methodAny (ReflectliteValue.valueError "reflectlite.Value.Type" 0) (fun t _ _ _ => ReflectliteType.toType t)) Tryz.func128 (by kernel_rfl) (by kernel_rfl) (by kernel_rfl) (by kernel_rfl)
  have hNi := @run_callFunc_extern Tryz.prog 129 _ (ReflectliteValue.method (ReflectliteValue.valueError "reflectlite.Value.IsNil" 0) ReflectliteValue.isNil) Tryz.func129 (by kernel_rfl) (by kernel_rfl) (by kernel_rfl) (by kernel_rfl)
  have hKi := @run_callFunc_extern Tryz.prog 195 _ (ReflectliteType.abiMethod fun t => do pure (.int .u8 (← Rtype.kind t))) Tryz.func195 (by kernel_rfl) (by kernel_rfl) (by kernel_rfl) (by kernel_rfl)
  have hEl := @run_callFunc_extern Tryz.prog 205 _ (ReflectliteType.method ReflectliteType.elem) Tryz.func205 (by kernel_rfl) (by kernel_rfl) (by kernel_rfl) (by kernel_rfl)
  have hIm := @run_callFunc_extern Tryz.prog 206 _ (ReflectliteType.relation "Implements" ReflectliteType.implements_) Tryz.func206 (by kernel_rfl) (by kernel_rfl) (by kernel_rfl) (by kernel_rfl)
  have hTO := @run_callFunc_extern Tryz.prog 147 _ ReflectliteType.typeOf Tryz.func147 (by kernel_rfl) (by kernel_rfl) (by kernel_rfl) (by kernel_rfl)
  have hAs := @run_callFunc_extern Tryz.prog 203 _ (ReflectliteType.relation "AssignableTo" ReflectliteType.assignableTo) Tryz.func203 (by kernel_rfl) (by kernel_rfl) (by kernel_rfl) (by kernel_rfl)
  have hVE := @run_callFunc_extern Tryz.prog 148 _ (ReflectliteValue.method (ReflectliteValue.valueError "reflectlite.Value.Elem" 0) ReflectliteValue.elem) Tryz.func148 (by kernel_rfl) (by kernel_rfl) (by kernel_rfl) (by kernel_rfl)
  have hVS := @run_callFunc_extern Tryz.prog 149 _ ReflectliteValue.set Tryz.func149 (by kernel_rfl) (by kernel_rfl) (by kernel_rfl) (by kernel_rfl)
  have tO := typeOfE
  have a25 := assignableE
  have v25 := valueOfE
  have f6 := valueOfP
  have f7 := typeP
  have mK := methodKind
  have mE := methodElem
  have mI := methodImplements
  have mA := methodAssignableTo
  have k27 := kindP
  have k25 := kindE
  have e27 := elemP
  have i25 := implementsE
  have n8 := isNilP ⟨w.heap.size, 0, none⟩ t ((w.alloc (.cells #[.pointer (some t)] 166)).alloc (.cells #[.pointer (some ⟨2, 166, none⟩), .pointer (some ⟨w.heap.size, 0, none⟩), .int .u64 150] 200)) (by simp)
  have hlt : 0 < w.heap.size := by
    rcases Nat.eq_zero_or_pos w.heap.size with h0 | h
    · simp [World.cell?, h0] at hg
    · exact h
  have hg2 : ((w.alloc (.cells #[.pointer (some t)] 166)).alloc (.cells #[.pointer (some ⟨2, 166, none⟩), .pointer (some ⟨w.heap.size, 0, none⟩), .int .u64 150] 200)).cell? ⟨0, 0, none⟩ = some (.iface 227 (.agg #[.pointer (some ⟨2, 32, none⟩)])) := by
    rw [World.cell?_alloc_lt _ _ ⟨0, 0, none⟩ (by simp), World.cell?_alloc_lt _ _ ⟨0, 0, none⟩ hlt]; exact hg
  have htl : t.block < w.heap.size := by
    rcases Nat.lt_or_ge t.block w.heap.size with h | h
    · exact h
    · simp [World.cell?, Array.getElem?_eq_none h] at ht0
  have el := elemVP ⟨w.heap.size, 0, none⟩ t (((w.alloc (.cells #[.pointer (some t)] 166)).alloc (.cells #[.pointer (some ⟨2, 166, none⟩), .pointer (some ⟨w.heap.size, 0, none⟩), .int .u64 150] 200)).alloc (.cells #[.pointer (some ⟨2, 166, none⟩), .pointer (some ⟨w.heap.size, 0, none⟩), .int .u64 150] 200)) (by rw [World.cell?_alloc_lt _ _ ⟨w.heap.size, 0, none⟩ (by simp; omega)]; simp)
  have st := setE t ⟨w.heap.size + 1 + 1 + 1, 0, none⟩ n old ((((w.alloc (.cells #[.pointer (some t)] 166)).alloc (.cells #[.pointer (some ⟨2, 166, none⟩), .pointer (some ⟨w.heap.size, 0, none⟩), .int .u64 150] 200)).alloc (.cells #[.pointer (some ⟨2, 166, none⟩), .pointer (some ⟨w.heap.size, 0, none⟩), .int .u64 150] 200)).alloc (.cells #[.int .i64 n] 90))
    (by rw [World.cell?_alloc_at _ _ _ _ (by simp)]; rfl)
    (by rw [World.cell?_alloc_lt _ _ t (by simp; omega), World.cell?_alloc_lt _ _ t (by simp; omega), World.cell?_alloc_lt _ _ t (by simp; omega), World.cell?_alloc_lt _ _ t htl]; exact ht0)
    (by rw [World.frozen?_alloc_old _ _ t (by simp; omega), World.frozen?_alloc_old _ _ t (by simp; omega), World.frozen?_alloc_old _ _ t (by simp; omega), World.frozen?_alloc_old _ _ t (Nat.ne_of_lt htl)]; exact hf0)
  go_enter Tryz.func95, Tryz.ntmps95
  go_wp2
  refine wp_loop_rounds 1 ?_
  rw [rounds_succ]
  go_wp2
  go_ret
  exact ⟨rfl, rfl⟩
end As
end Go.Proofs.YtngalkmmpjegkaaGreatDoor
/- plain.Told, leafsame.Error: the number of an error. Conditions: the library's one variable holds what its text lays. -/
namespace Go.Proofs.YtngalkmmpjegkaaGreatDoor
open Go.RowKit
set_option linter.unusedVariables false

/-- The library's one variable holds what its text lays. -/
def Glob (w : World) : Prop := w.cell? ⟨0, 0, none⟩ = some (.iface 227 (.agg #[.pointer (some ⟨2, 32, none⟩)]))
theorem Glob.lt {w : World} (h : Glob w) : 0 < w.heap.size := by
  rcases Nat.lt_or_ge 0 w.heap.size with h1 | h1
  · exact h1
  · unfold Glob at h; simp [World.cell?, Array.getElem?_eq_none h1] at h
theorem Glob.below {w w' : World} (h : Glob w) {B : Nat} (hb : Below B w w') (hB : w.heap.size ≤ B) : Glob w' := (hb.cell (p := ⟨0, 0, none⟩) (Nat.lt_of_lt_of_le h.lt hB)).trans h
theorem Glob.alloc {w : World} (h : Glob w) (o : Obj) : Glob (w.alloc o) := h.below ((Below.refl _ _).alloc (Nat.le_refl _) _) (Nat.le_refl _)

set_option maxRecDepth 100000 in
set_option maxHeartbeats 1000000 in
theorem told_any (w : World) (k : Int) (hg : Glob w) : Calls Tryz.prog 55 #[errV k] w (CheckPost w (.int .i64 k)) := by
  by_cases h : k = 0
  · subst h
    rw [show errV 0 = .nilIface from rfl]
    go_enter Tryz.func55, Tryz.ntmps55
    go_wp2_with fail
    go_ret
    exact ⟨rfl, Below.refl _ _⟩
  · rw [errV_ne h]
    have HA := Lib.hid (As.as_hit k ⟨w.heap.size, 0, none⟩ (.int .i64 0) (w.alloc (.cells #[.int .i64 0] 90)) (hg.alloc _) (by simp) (by simp))
    have hsz : w.heap.size < w.heap.size + 1 := by omega
    clear h hg
    go_enter Tryz.func55, Tryz.ntmps55
    go_wp2_with fail
    refine HA.out.mono ?_
    rintro e w1 ⟨rfl, hw1⟩
    have hc : w1.cell? ⟨w.heap.size, 0, none⟩ = some (.int .i64 k) := by
      rw [hw1]
      refine World.cell?_setCell_same _ _ _ (u := .int .i64 0) ?_
      rw [World.cell?_alloc_lt _ _ _ (by simp; omega), World.cell?_alloc_lt _ _ _ (by simp; omega), World.cell?_alloc_lt _ _ _ (by simp; omega), World.cell?_alloc_lt _ _ _ (by simp)]
      simp
    have hb : Hid (Below w.heap.size w w1) := by
      show Below _ _ _
      rw [hw1]
      exact (((((((Below.refl _ _).alloc (Nat.le_refl _) _).alloc (by simp) _).alloc (by simp; omega) _).alloc (by simp; omega) _).alloc (by simp; omega) _).setCell (by simp) _)
    clear hw1 HA
    go_wp2_with fail
    go_ret
    exact ⟨rfl, hb.out⟩
set_option maxRecDepth 100000 in
theorem error_any (w : World) (k e : Int) (hg : Glob w) : Calls Tryz.prog 19 #[errV k, .int .i64 e] w (CheckPost w (.bool (k == e))) := by
  have HT := Lib.hid (told_any w k hg)
  clear hg
  go_enter Tryz.func19, Tryz.ntmps19
  go_wp2_with fail
  refine HT.out.mono ?_
  rintro e1 w1 ⟨rfl, hb⟩
  go_wp2_with fail
  go_ret
  exact ⟨rfl, hb⟩
end Go.Proofs.YtngalkmmpjegkaaGreatDoor
/- From a walk to a tied card: what serves every law of a seat whose rows list the library's one variable. Conditions: none of our own. (After the guide's worked toy on errors.As.) -/
namespace Go.Proofs.YtngalkmmpjegkaaGreatDoor
open Go.ChangeShapes Go.WideShapes Go.RowKit
set_option linter.unusedVariables false
namespace Card

/-- What the rows list. -/
def laid : List (String × DataW Unit) := [("errors.errorType", Rows.laid_errors_errorType)]
theorem et : Tryz.prog.globalNamed "errors.errorType" = some 0 := by kernel_rfl
theorem rt : (Tryz.prog.cutTypes.find? (·.1 == "internal/reflectlite.rtype")).map (·.2) = some 227 := by kernel_rfl
theorem oneRow : ((List.range Tryz.prog.types.size).filter fun t => Tryz.prog.rowNamed t [101, 114, 114, 111, 114]) = [32] := by kernel_rfl
theorem handle : typeHandle Tryz.prog 32 = .pointer (some ⟨2, 32, none⟩) := by kernel_rfl
/-- What the condition gives a walk: the variable's one cell. -/
theorem glob_of_laid {W : World} (h : laidMetH Tryz.prog laid W) : Glob W := by
  have h' : laidMet Tryz.prog [] W ∧ handlesMet Tryz.prog laid W := h
  obtain ⟨name, u, ty, e1, e2, e3, e4, e5⟩ := h'.2 _ (List.mem_singleton.2 rfl)
  have en : name = [101, 114, 114, 111, 114] := (Option.some.inj e1).symm
  subst en
  obtain rfl := Option.some.inj (rt.symm.trans e2)
  have hm : ty ∈ (List.range Tryz.prog.types.size).filter fun t => Tryz.prog.rowNamed t [101, 114, 114, 111, 114] := List.mem_filter.2 ⟨List.mem_range.2 e3, e4⟩
  rw [oneRow] at hm
  obtain rfl := List.mem_singleton.1 hm
  rw [handle] at e5
  unfold Glob
  simpa using World.var?_cell et e5 0
/-- A world that meets the condition: the settled one, the variable's cell laid. -/
noncomputable def laidWorld (os : Os) : World :=
  let w0 := World.holding Tryz.prog os ⟨#[], #[], []⟩
  { w0 with heap := w0.heap.modify 0 fun
      | .cells _ t frozen => .cells #[.iface 227 (.agg #[.pointer (some ⟨2, 32, none⟩)])] t frozen
      | o => o }
theorem laidWorld_met (os : Os) (args : Array Value) : laidMetH Tryz.prog laid ((laidWorld os).forCall (fun _ _ => 0) ⟨#[], args, []⟩).memory :=
  laidMetH_of_parts (laidMet_nil _ _) (by kernel_rfl)
end Card
end Go.Proofs.YtngalkmmpjegkaaGreatDoor
/- leaflaw4.BackAll, proved: what one author wrote alone is gone when all is taken back. Conditions: the library's one variable holds what its text lays (the card ties it). -/
namespace Go.Proofs.YtngalkmmpjegkaaGreatDoor
open Go.RowKit Go.WideShapes Go.ChangeShapes Go.ChangeAt
set_option linter.unusedVariables false
theorem textL_seen (l : List LLeaf) (h : ∀ x ∈ l, seenB x = true) : textL l = l.map fun x => u8 x.letter := by
  unfold textL
  rw [List.filter_eq_self.2 h]
theorem ext_take0 {s : ByteArray} {k : Nat} : (s.extract 0 k).toList = s.toList.take k := by
  rw [toList_data, ByteArray.data_extract, Array.toList_extract, List.extract_eq_take_drop, toList_data]
  simp
theorem typed_leaf {d : LDoc} {who off : Int} {text : ByteArray} (h : d.insE who off text = 0) : ∀ o ∈ d.insR who off text, o.dot.who = who ∧ o.what = 1 ∧ letterB o.letter = true := by
  obtain ⟨h1, h2⟩ := LDoc.ins_each h
  obtain ⟨_, a2, _⟩ := LDoc.ins_ok h
  obtain ⟨_, i2, _⟩ := insErr_zero a2
  intro o ho
  obtain ⟨g1, g2, _⟩ := h1 o ho
  refine ⟨g1, g2, ?_⟩
  have : o.letter ∈ (d.insR who off text).map LOp.letter := List.mem_map.2 ⟨o, ho, rfl⟩
  rw [h2] at this
  obtain ⟨c, hc, e⟩ := List.mem_map.1 this
  rw [← e]
  cases hb : badC c with
  | false => unfold badC at hb; simpa using hb
  | true =>
    have h3 : text.toList.any badC = true := List.any_eq_true.2 ⟨c, hc, hb⟩
    rw [i2] at h3; cases h3
theorem leaf_seen {o : LOp} (h : letterB o.letter = true) : seenB (leafOf o) = true := by
  have := letterB_range h
  unfold seenB leafOf
  simp; omega
/-- The whole law of one author alone. -/
theorem all_back {text : ByteArray} (h : LDoc.new.insE 1 0 text = 0) (h60 : text.size ≤ 60) :
    LDoc.new.doE (LDoc.new.insR 1 0 text) = 0 ∧ (LDoc.new.doR (LDoc.new.insR 1 0 text)).Ok ∧ ∀ m : Nat, m ≤ 200 →
      (LDoc.new.doR (LDoc.new.insR 1 0 text)).undE 1 (m : Int) = 0 ∧ ((LDoc.new.doR (LDoc.new.insR 1 0 text)).undR 1 (m : Int)).length = min m text.size ∧ (LDoc.new.doR (LDoc.new.insR 1 0 text)).doE ((LDoc.new.doR (LDoc.new.insR 1 0 text)).undR 1 (m : Int)) = 0 ∧
      textOf ((LDoc.new.doR (LDoc.new.insR 1 0 text)).doR ((LDoc.new.doR (LDoc.new.insR 1 0 text)).undR 1 (m : Int))).book = text.extract 0 (text.size - m) := by
  obtain ⟨t1, _, _, t4⟩ := (LDoc.Typing.new (who := 1) (by decide)).step (off := 0) (text := text) h (by simp; omega)
  obtain ⟨a, b, e1, e2, e3, e4, e5, e6, e7, _⟩ := LDoc.ins_does LDoc.new_ok h t1
  have hab : a = [] ∧ b = [] := by
    have : a ++ b = [] := by rw [← e1]; rfl
    simpa using this
  obtain ⟨rfl, rfl⟩ := hab
  have hk := t4.ok
  have hn := t4.n
  have hlen : (LDoc.new.insR 1 0 text).length = text.size := by
    have := congrArg List.length (LDoc.ins_each h).2
    rw [List.length_map, List.length_map, toList_len] at this
    exact this
  have hY := typed_leaf h
  have htl : (LDoc.new.insR 1 0 text).map (fun o => u8 o.letter) = text.toList := by
    rw [← e4, textL_seen]
    · rw [List.map_map]; rfl
    · intro x hx
      obtain ⟨o, ho, rfl⟩ := List.mem_map.1 hx
      exact leaf_seen (hY o ho).2.2
  refine ⟨t1, hk, fun m hm => ?_⟩
  generalize LDoc.new.insR 1 0 text = Y at *
  generalize LDoc.new.doR Y = st at *
  have hops : st.ops = [] ++ Y := by rw [e7]; rfl
  have hn2 : nOf st.known ⟨1, 0⟩ = (text.size : Int) := by
    rw [hn]
    simp [toList_len]
  obtain ⟨k, r, hkr, hk1, hk2⟩ : ∃ k r : Nat, m = k + r ∧ k ≤ Y.length ∧ (r = 0 ∨ (k = Y.length ∧ ([] : List LOp) = [])) := by
    rcases Nat.le_total m Y.length with hc | hc
    · exact ⟨m, 0, rfl, hc, .inl rfl⟩
    · exact ⟨Y.length, m - Y.length, by omega, Nat.le_refl _, .inr ⟨rfl, rfl⟩⟩
  obtain ⟨b1, b2, b3, b4⟩ := back_typed hk (a := []) (c := []) (Y := Y) (R := []) (by rw [e3]) hops (show LDoc.whoE 1 = 0 by decide) hY hk1 hk2 (by omega)
  rw [← hkr] at b1 b2 b3 b4
  have hdo := b3 (by rw [hops]; simp; omega) (by rw [hn2]; omega)
  refine ⟨b1, by rw [b2]; omega, hdo, ?_⟩
  apply tl_inj
  rw [LDoc.tx_list, b4 hdo, ext_take0, ← htl, textL_seen (List.map leafOf (Y.take (Y.length - k)))]
  · have e8 : Y.length - k = text.size - m := by omega
    rw [List.map_map, e8, List.map_take]
    simp [textL]
    rfl
  · intro x hx
    obtain ⟨o, ho, rfl⟩ := List.mem_map.1 hx
    exact leaf_seen (hY o (List.mem_of_mem_take ho)).2.2
namespace lawBackAll
set_option maxRecDepth 100000 in
set_option maxHeartbeats 8000000 in
theorem walk (w : World) (text : ByteArray) (n : Int) (hg : Glob w) (ht : text.size ≤ 9223372036854775807) (hn0 : -9223372036854775808 ≤ n) (hn1 : n ≤ 9223372036854775807) :
    Calls Tryz.prog 6 #[.string text, .int .i64 n] w (CheckPost w (.bool true)) := by
  have HE0 : errV 0 = .nilIface := rfl
  have HV1 := Lib.hid (errV_ne (show (1 : Int) ≠ 0 by decide))
  have HN := Lib.hid (OneDoc.new w (Below.refl _ w))
  have KE := Lib.hid (fun W (hb : Below w.heap.size w W) k e => error_any W k e (hg.below hb (Nat.le_refl _)))
  clear hg
  go_enter Tryz.func6, Tryz.ntmps6
  go_wp2_with fail
  refine HN.out.mono ?_
  rintro e w1 ⟨b, rfl, hd⟩
  have HI := Lib.hid (hd.ins 1 0 text (by decide) (by decide) (by decide) ht)
  clear hd HN
  go_wp2_with fail
  refine HI.out.mono ?_
  rintro e w2 ⟨V, c, rfl, hr, hd⟩
  have HD2 := Lib.hid hd
  have HR2 := Lib.hid hr
  have HB2 := Lib.hid hd.below
  clear hd hr HI
  by_cases hie : LDoc.new.insE 1 0 text = 0
  · rw [hie, HE0]
    by_cases h60 : 60 < text.size
    · have g0 : (60 : Int) < (text.size : Int) := by omega
      clear hie
      go_wp2_with fail
      go_ret
      exact ⟨rfl, HB2.out⟩
    · have g0 : ¬ (60 : Int) < (text.size : Int) := by omega
      obtain ⟨t1, t2, t3⟩ := all_back hie (by omega)
      have HDO := Lib.hid (HD2.out.do_ HR2.out insR_small (by have := insR_len (d := LDoc.new) (who := 1) (off := 0) (text := text); omega))
      rw [t1, HE0] at HDO
      have HT3 := Lib.hid t3
      have hsz : text.size ≤ 60 := by omega
      clear hie t1 t2 t3 h60 HR2 HD2
      generalize (LDoc.new.insR 1 0 text).length = L at *
      go_wp2_with fail
      refine HDO.out.mono ?_
      rintro e w3 ⟨rfl, hd⟩
      have HD3 := Lib.hid hd
      have HU := Lib.hid (hd.und 1 n (by decide) (by decide))
      clear hd HDO
      generalize LDoc.new.doR (LDoc.new.insR 1 0 text) = st at *
      by_cases hout : n < 0 ∨ 200 < n
      · have hue : st.undE 1 n = 1 := by
          unfold LDoc.undE
          rw [if_neg (by decide), if_pos hout]
        rw [hue] at HU
        clear hue HT3
        have KX : Hid (∀ W, Below w.heap.size w W → Calls Tryz.prog 19 #[errV 1, .int .i64 1] W (CheckPost W (.bool true))) := fun W hW => KE.out W hW 1 1
        rw [HV1.out] at KX HU
        rcases hout with hout | hout
        · go_wp2_with fail
          refine HU.out.mono ?_
          rintro e w4 ⟨V4, c4, rfl, _, hd⟩
          have HB4 := Lib.hid hd.below
          clear hd HU
          go_wp2_with fail
          refine (KX.out _ HB4.out).mono ?_
          rintro e w5 ⟨rfl, hb⟩
          have HB5 := Lib.hid (HB4.out.trans (hb.mono HB4.out.size))
          clear hb
          go_wp2_with fail
          go_ret
          exact ⟨rfl, HB5.out⟩
        · have hnn : ¬ n < 0 := by omega
          go_wp2_with fail
          refine HU.out.mono ?_
          rintro e w4 ⟨V4, c4, rfl, _, hd⟩
          have HB4 := Lib.hid hd.below
          clear hd HU
          go_wp2_with fail
          refine (KX.out _ HB4.out).mono ?_
          rintro e w5 ⟨rfl, hb⟩
          have HB5 := Lib.hid (HB4.out.trans (hb.mono HB4.out.size))
          clear hb
          go_wp2_with fail
          go_ret
          exact ⟨rfl, HB5.out⟩
      · have hnn : ¬ n < 0 := by omega
        have hnn2 : ¬ 200 < n := by omega
        obtain ⟨m, rfl⟩ : ∃ m : Nat, n = (m : Int) := ⟨n.toNat, by omega⟩
        obtain ⟨u1, u2, u3, u4⟩ := HT3.out m (by omega)
        have OK3 := Lib.hid HD3.out.ok
        have UF := Lib.hid (LDoc.undR_few OK3.out 1 (m : Int))
        have U3 := Lib.hid u3
        have U4 := Lib.hid u4
        rw [u1, HE0] at HU
        clear HT3 u1 u2 u3 u4 hout
        go_wp2_with fail
        refine HU.out.mono ?_
        rintro e w4 ⟨V4, c4, rfl, hr, hd⟩
        have HDO := Lib.hid (hd.do_ hr UF.out.1 (by have := UF.out.2; omega))
        rw [U3.out, HE0] at HDO
        clear hr hd HU
        generalize (st.undR 1 (m : Int)).length = L4 at *
        go_wp2_with fail
        refine HDO.out.mono ?_
        rintro e w5 ⟨rfl, hd⟩
        have HD5 := Lib.hid hd
        clear hd HDO U3 UF OK3 HD3
        generalize st.doR (st.undR 1 (m : Int)) = s5 at *
        have HT : Hid (∀ W, OneDoc w b s5 W → Calls Tryz.prog 12 #[.pointer (some ⟨b, 0, none⟩)] W (fun e w' => e = .returned (.string (text.extract 0 (text.size - m))) ∧ OneDoc w b s5 w')) := fun W hW => by
          have := hW.text
          rw [U4.out] at this
          exact this
        clear U4
        have HRES : Hid (∀ X : ByteArray, (X.toList == X.toList) = true) := fun X => by simp
        by_cases hle : m ≤ text.size
        · have q1 : IntKind.i64.wrap ((text.size : Int) - (m : Int)) = ((text.size - m : Nat) : Int) := by rw [IntWalk.i64_in _ (by omega)]; omega
          have k0 : ¬ ((text.size - m : Nat) : Int) < 0 := by omega
          have k00 : (0 : Int) ≤ ((text.size - m : Nat) : Int) := by omega
          have k1 : ((text.size - m : Nat) : Int) ≤ (text.size : Int) := by omega
          have hres := HRES.out (text.extract 0 (text.size - m))
          generalize hk : text.size - m = k at *
          go_wp2_with fail
          go_region_held3 (fun _ => True) (trivial)
            (first
              | (go_at_call 12; refine (HT.out _ (by first | exact HD5.out | exact HD5.out.drewN _)).mono ?_; rintro e w6 ⟨rfl, hd⟩
                 have HB6 : Hid (Below w.heap.size w w6) := hd.below
                 clear hd))
          all_goals
            go_wp2_with fail
            go_ret
            exact ⟨rfl, HB6.out⟩
        · have q1 : IntKind.i64.wrap ((text.size : Int) - (m : Int)) = (text.size : Int) - (m : Int) := IntWalk.i64_in _ (by omega)
          have k0 : (text.size : Int) - (m : Int) < 0 := by omega
          have k1 : (0 : Int) ≤ (text.size : Int) := by omega
          have hz : text.size - m = 0 := by omega
          rw [hz] at HT
          have hres := HRES.out (text.extract 0 0)
          go_wp2_with fail
          go_region_held3 (fun _ => True) (trivial)
            (first
              | (go_at_call 12; refine (HT.out _ (by first | exact HD5.out | exact HD5.out.drewN _)).mono ?_; rintro e w6 ⟨rfl, hd⟩
                 have HB6 : Hid (Below w.heap.size w w6) := hd.below
                 clear hd))
          all_goals
            go_wp2_with fail
            go_ret
            exact ⟨rfl, HB6.out⟩
  · have HV := Lib.hid (errV_ne hie)
    rw [HV.out]
    clear hie
    go_wp2_with fail
    go_ret
    exact ⟨rfl, HB2.out⟩
set_option maxRecDepth 100000 in
theorem lifted (os : Os) (started : os.Started) (H : Type) (enc : TypeId × Value → H) :
    ReturnsInHanded {} Tryz.checked os 6 .any (fun w args => (Rows.backAllSpec.pre enc Tryz.prog Tryz.f6 [] false w args ∧ laidMetH Tryz.prog Card.laid w) ∧ sizedMet enc Tryz.prog Tryz.f6 (OpenSpec.ofChange Rows.backAllSpec) false w args)
      (Rows.backAllSpec.post enc Tryz.prog Tryz.f6 false true false false) := by
  refine returnsInHanded_of_change_and (C := Tryz.checked) (X := fun w _ => laidMetH Tryz.prog Card.laid w) (fun _ _ _ hh h => h.of_heap hh) Tryz.own started (by kernel_rfl) Tryz.func6
    (ChangeSpec.witness_at (enc := enc) (C := Tryz.checked) (os := os) (X := fun w _ => laidMetH Tryz.prog Card.laid w) false (Card.laidWorld os) #[.string ⟨#[]⟩, .int .i64 0] 8 rfl (by kernel_rfl) (by kernel_rfl) (by kernel_rfl) (by kernel_rfl) (by kernel_rfl) (Card.laidWorld_met os _)) ?_
  intro W base args ds gs before hval0 hW _ hsz0 hL _
  have hval : ∀ (j : Nat) t v, Tryz.f6.params[j]? = some t → args[j]? = some v → Value.okWide Tryz.prog W .any base t v := hval0
  obtain ⟨p, q, hA0, _⟩ := id hW
  have hA : DataW.TrodAll enc Tryz.prog W 0 (fun _ => true) true Tryz.f6.params.toList args.toList ds p := hA0
  have hsz : (DataW.weightsEach Tryz.prog (Tryz.f6.params.toList ++ Rows.backAllSpec.plain.varTypes Tryz.prog) (ds ++ gs)).all (· ≤ reachBytes) = true := hsz0
  rw [Tryz.params6] at hA hval hsz
  obtain ⟨v0, v1, d0, d1, p0, p1, rfl, rfl, rfl, h0, h1⟩ := trodAll_two hA
  obtain ⟨a0, rfl, rfl, rfl, wa0⟩ := Go.ChangeMaps.open_string Tryz.underlying9 (hval 0 9 v0 rfl rfl) h0
  obtain ⟨a1, rfl, rfl, rfl, wa1⟩ := open_int Tryz.underlying3 (hval 1 3 v1 rfl rfl) h1
  refine (walk W a0 a1 (Card.glob_of_laid hL) (by unfold maxLen at wa0; exact wa0) (i64_of_wf wa1).1 (i64_of_wf wa1).2).mono fun e W' ⟨he, hb⟩ => ⟨_, he, ?_⟩
  exact law_post Tryz.laidOut (tb := 4) (by kernel_rfl) Tryz.underlying4 (by rw [Tryz.params6]; simp only [List.mem_cons, List.not_mem_nil, or_false]; rintro t (rfl | rfl) <;> exact ⟨by kernel_rfl, of_decide_eq_true (by kernel_rfl)⟩) rfl rfl hW hb

theorem holds : Rows.BackAllSaid :=
  OpenClaim.holds_of_wide 6 Tryz.f6 rfl rfl rfl rfl rfl rfl rfl ⟨rfl, rfl, rfl, rfl, rfl⟩ rfl rfl rfl rfl rfl (by kernel_rfl) Tryz.func6 (by kernel_rfl)
    (of_decide_eq_true (by kernel_rfl)) (by unfold Func.isWrapper; first | (rw [if_pos (by decide +kernel)]; kernel_rfl) | (rw [if_neg (by decide +kernel)]; exact ⟨rfl, rfl⟩))
    (fun os started H enc _ => lifted os started H enc)
theorem noStand : ∀ t ∈ Tryz.f6.params.toList, Tryz.prog.wantsStandIn t = false := by
  rw [Tryz.params6]
  simp only [List.mem_cons, List.not_mem_nil, or_false]
  rintro t (rfl | rfl) <;> kernel_rfl
theorem card_holds : Rows.BackAllCardSaid :=
  Claim7.holds_tied_plain_at .later [] [.handle] true Rows.backAllCard.stood.harness true
    holds (fun _ h => by cases h) (by kernel_rfl) (fun _ h => by cases h) backAll_row_tie rfl ⟨rfl, rfl⟩ (by kernel_rfl) rfl
    (fun f fn hf hfn => by
      obtain rfl : f = 6 := Option.some.inj ((show Tryz.prog.funcNamed Rows.backAllRow.func = some 6 by kernel_rfl).symm.trans hf) |>.symm
      obtain rfl : fn = Tryz.f6 := (Option.some.inj (Tryz.func6.symm.trans hfn)).symm
      exact ⟨by kernel_rfl, fun j t ht => noStand t (by
        have := Array.mem_of_getElem? ht
        simpa using this)⟩)
    (by kernel_rfl)
#print axioms card_holds
end lawBackAll
end Go.Proofs.YtngalkmmpjegkaaGreatDoor

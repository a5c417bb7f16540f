/- 4 texts in one: each says ahead of itself what is proved, and its conditions. -/
import Derived.Below
import Derived.ChangeSame
import Derived.ChangeVars
import Derived.Deep.CutBlock
import Derived.JoinedOf
import Derived.LaidHandle
import Derived.LaidLaws
import Derived.ProofKit
import Derived.RowKit
import Derived.RowKitTokens
import Derived.SevenTiedAt
import Derived.SizedLaws
import Derived.Test.YtmpkgbkdndpnlaaGreatDoorCards
import Derived.Test.YtmpkgbkdndpnlaaGreatDoorRows
import Derived.Test.YtmpkgbkdndpnlaaGreatDoorTie
import Derived.WalkKit
import Derived.Test.YtmpkgbkdndpnlaaGreatDoorLogAt
import Derived.Test.YtmpkgbkdndpnlaaGreatDoorLogScene
import Derived.Test.YtmpkgbkdndpnlaaGreatDoorOpen
import Derived.Test.YtmpkgbkdndpnlaaGreatDoorTold
/- From a walk to a given statement: one theorem that serves every law of the seat. Conditions: none of our own. -/
namespace Go.Proofs.YtmpkgbkdndpnlaaGreatDoor
open Go.RowKit Go.WideShapes Go.ChangeShapes Go.ChangeAt
set_option linter.unusedVariables false

section
variable {H : Type} {enc : TypeId × Value → H} {P : Program}

theorem post_of_below {f : Func} {s : ChangeSpec} {apart fresh handsOn again : Bool} {W W' : World} {args : Array Value} {v : Value} {ds gs : List (DataW H)} {before pa pv : List MemPlace}
    (hW : DataW.Whole enc P f.params.toList s.vars apart W args.toList ds gs before)
    (hres : ∀ (b : Nat) (sp : Nat → Bool) (hd : Bool), DataW.TrodAll enc P W' b sp hd f.resultTypes.toList (v.resultList f.resultTypes.size) (s.fn H (ds ++ gs)).results [])
    (hargs : ∀ sp : Nat → Bool, (∀ p ∈ before, sp p.block = true) → DataW.TrodAll enc P W' 0 sp true f.params.toList args.toList (s.fn H (ds ++ gs)).args pa)
    (hvars : ∀ sp : Nat → Bool, (∀ p ∈ before, sp p.block = true) → DataW.TrodVars enc P W' sp s.vars (s.fn H (ds ++ gs)).vars pv)
    (hps : before = pa ++ pv) (hb : Below W.heap.size W W')
    (hok : ∀ (j : Nat) (t : TypeId) (r : Value), f.resultTypes[j]? = some t → (v.resultList f.resultTypes.size)[j]? = some r → Value.okWide P W' .any 0 t r) :
    s.post enc P f apart fresh handsOn again W args v W' := by
  have hlt : ∀ p ∈ before, p.block < W.heap.size := fun p hp => hW.lt p hp
  have hold : ∀ p ∈ before, (fun b => decide (b < W.heap.size)) p.block = true := fun p hp => by simpa using hlt p hp
  refine ⟨ds, gs, before, [], pa, pv, hW, hres _ _ _, hargs _ hold, hvars _ hold, World.keptBut_mono (fun p hp => ⟨hp, ?_⟩) (hb.frame (· ∈ before)), fun _ => ?_⟩
  · rw [hps, List.mem_append] at hp
    exact Or.inr hp
  · obtain ⟨_, _, _, _, _, hz, hn⟩ := hW
    refine ⟨hok, _, _, ([] ++ pa) ++ pv, ⟨[] ++ pa, pv, trodAll_append (hargs _ (fun _ _ => rfl)) (hres _ _ _), hvars _ (fun _ _ => rfl), rfl, ?_, ?_⟩, ?_⟩
    · intro b off hp
      have hin : MemPlace.cell b off ∈ before := by rw [hps]; simpa using hp
      rw [hb.frozen (hlt _ hin)]
      exact hz b off hin
    · intro ha
      have := hn ha
      rw [hps] at this
      simpa using this
    · intro p hp _
      rw [hps]
      simpa using hp

theorem trodAll_below (hl : laidOutB P = true) {W W' : World} (hb : Below W.heap.size W W') {sp : Nat → Bool} :
    ∀ (ts : List TypeId) (vs : List Value) (ds : List (DataW H)) (ps : List MemPlace), (∀ t ∈ ts, P.readableRec t = true ∧ t < P.types.size) → (∀ p ∈ ps, p.block < W.heap.size) → (∀ p ∈ ps, sp p.block = true) →
      DataW.TrodAll enc P W 0 (fun _ => true) true ts vs ds ps → DataW.TrodAll enc P W' 0 sp true ts vs ds ps := by
  intro ts
  induction ts with
  | nil => intro vs ds ps _ _ _ h; cases vs <;> cases ds <;> simp_all [DataW.TrodAll]
  | cons t ts ih =>
    intro vs ds ps ht hlt hs h
    cases vs with
    | nil => simp [DataW.TrodAll] at h
    | cons v vs =>
      cases ds with
      | nil => simp [DataW.TrodAll] at h
      | cons d ds =>
        obtain ⟨p, q, h1, h2, rfl⟩ := h
        exact ⟨p, q, WideElems.Trod_stays hl (ht t (by simp)).1 (ht t (by simp)).2 h1 (fun x hx => hb.same (hlt x (by simp [hx]))) (fun x hx => hs x (by simp [hx])),
          ih vs ds q (fun t' h' => ht t' (by simp [h'])) (fun x hx => hlt x (by simp [hx])) (fun x hx => hs x (by simp [hx])) h2, rfl⟩

/-- A law: it answered true, and nothing that was there has turned. -/
theorem law_post (hl : laidOutB P = true) {f : Func} {s : ChangeSpec} {apart fresh handsOn again : Bool} {tb : TypeId} {W W' : World} {args : Array Value} {ds gs : List (DataW H)} {before : List MemPlace}
    (hr : f.resultTypes = #[tb]) (htb : P.underlying tb = some .bool) (hp : ∀ t ∈ f.params.toList, P.readableRec t = true ∧ t < P.types.size) (hv : s.vars = [])
    (hfn : s.fn H ds = { results := [.lit (.bool true)], args := ds })
    (hW : DataW.Whole enc P f.params.toList s.vars apart W args.toList ds gs before) (hb : Below W.heap.size W W') :
    s.post enc P f apart fresh handsOn again W args (.bool true) W' := by
  have hW' := hW
  obtain ⟨p, q, hA, hV, hpq, hfz, hnd⟩ := hW
  have hlt : ∀ x ∈ before, x.block < W.heap.size := fun x hx => hW'.lt x hx
  rw [hv] at hV
  obtain ⟨hgs, hq⟩ := trodVars_none hV
  subst hgs; subst hq
  simp only [List.append_nil] at hpq
  subst hpq
  refine post_of_below (pa := before) (pv := []) hW' ?_ ?_ ?_ (by simp) hb ?_
  · intro b sp hd
    rw [List.append_nil, hfn, hr]
    exact trodAll_mk1 (shut_bool htb _)
  · intro sp hs
    rw [List.append_nil, hfn]
    exact trodAll_below hl hb _ _ _ _ hp hlt hs hA
  · intro sp hs
    rw [List.append_nil, hfn, hv]
    exact rfl
  · exact ok_one hr rfl (okWide_bool_mk htb _)
end

theorem Tryz.own : ownKnob Tryz.prog.godebug = none := by kernel_rfl
theorem Tryz.laidOut : laidOutB Tryz.prog = true := by kernel_rfl
end Go.Proofs.YtmpkgbkdndpnlaaGreatDoor
/- From a walk to a tied card: what serves every law of a seat whose rows list the library's one variable. Conditions: none of our own. (After the guide's worked toy on errors.As.) -/
namespace Go.Proofs.YtmpkgbkdndpnlaaGreatDoor
open Go.ChangeShapes Go.WideShapes Go.RowKit
set_option linter.unusedVariables false
namespace Card

/-- What the rows list. -/
def laid : List (String × DataW Unit) := [("errors.errorType", Rows.laid_errors_errorType)]
theorem et : Tryz.prog.globalNamed "errors.errorType" = some 0 := by kernel_rfl
theorem rt : (Tryz.prog.cutTypes.find? (·.1 == "internal/reflectlite.rtype")).map (·.2) = some 212 := by kernel_rfl
theorem oneRow : ((List.range Tryz.prog.types.size).filter fun t => Tryz.prog.rowNamed t [101, 114, 114, 111, 114]) = [25] := by kernel_rfl
theorem handle : typeHandle Tryz.prog 25 = .pointer (some ⟨2, 25, none⟩) := by kernel_rfl
/-- What the condition gives a walk: the variable's one cell. -/
theorem glob_of_laid {W : World} (h : laidMetH Tryz.prog laid W) : Glob W := by
  have h' : laidMet Tryz.prog [] W ∧ handlesMet Tryz.prog laid W := h
  obtain ⟨name, u, ty, e1, e2, e3, e4, e5⟩ := h'.2 _ (List.mem_singleton.2 rfl)
  have en : name = [101, 114, 114, 111, 114] := (Option.some.inj e1).symm
  subst en
  obtain rfl := Option.some.inj (rt.symm.trans e2)
  have hm : ty ∈ (List.range Tryz.prog.types.size).filter fun t => Tryz.prog.rowNamed t [101, 114, 114, 111, 114] := List.mem_filter.2 ⟨List.mem_range.2 e3, e4⟩
  rw [oneRow] at hm
  obtain rfl := List.mem_singleton.1 hm
  rw [handle] at e5
  unfold Glob
  simpa using World.var?_cell et e5 0
/-- A world that meets the condition: the settled one, the variable's cell laid. -/
noncomputable def laidWorld (os : Os) : World :=
  let w0 := World.holding Tryz.prog os ⟨#[], #[], []⟩
  { w0 with heap := w0.heap.modify 0 fun
      | .cells _ t frozen => .cells #[.iface 212 (.agg #[.pointer (some ⟨2, 25, none⟩)])] t frozen
      | o => o }
theorem laidWorld_met (os : Os) (args : Array Value) : laidMetH Tryz.prog laid ((laidWorld os).forCall (fun _ _ => 0) ⟨#[], args, []⟩).memory :=
  laidMetH_of_parts (laidMet_nil _ _) (by kernel_rfl)
end Card
end Go.Proofs.YtmpkgbkdndpnlaaGreatDoor
/- The ops of leaflaw3.LogStops, and what a log makes of them: plain. Conditions: none. -/
namespace Go.Proofs.YtmpkgbkdndpnlaaGreatDoor
open Go.RowKit
set_option linter.unusedVariables false
def stk (n : Int) : LOp := ⟨⟨1, n⟩, 2, ⟨#[110, 98]⟩, 0, []⟩
def stks (k : Nat) : List LOp := (List.range k).map fun (i : Nat) => stk ((i : Int) + 1)
def pbO : LOp := ⟨⟨2, 1⟩, 1, ⟨#[112, 98]⟩, 104, []⟩
def noO : LOp := ⟨⟨0, 0⟩, 0, ⟨#[]⟩, 0, []⟩
theorem stks_succ (k : Nat) : stks (k + 1) = stks k ++ [stk ((k : Int) + 1)] := by unfold stks; rw [List.range_succ, List.map_append]; rfl
theorem stks_take (k j : Nat) : ∃ i, i ≤ k ∧ (stks k).take j = stks i := by
  refine ⟨min j k, by omega, ?_⟩
  unfold stks
  rw [← List.map_take, List.take_range]
theorem stks_go : ∀ i, i < 22 → (LDoc.new.all (stks i)).applyB (stk ((i : Int) + 1)) = true := by decide +kernel
theorem stks_pb : ∀ i, i < 23 → (LDoc.new.all (stks i)).applyB pbO = true ∧ textOf ((LDoc.new.all (stks i)).apply pbO).book = ⟨#[104]⟩ := by decide +kernel
theorem stks_no : ∀ i, i < 23 → (LDoc.new.all (stks i)).applyB noO = false ∧ (LDoc.new.all (stks i)).applyE noO = 1 := by decide +kernel
/-- A log to which i of the ops were put, told to stop at the step n. -/
def SMid (n i : Nat) (L : LLog) : Prop := ∃ k, L.all = stks k ∧ k ≤ 21 ∧ k ≤ i ∧ (i ≤ n → L.stopped = false ∧ L.left = (n : Int) - i ∧ k = i) ∧ (n < i → L.stopped = true)
theorem SMid.start {n : Nat} : SMid n 0 (LLog.new.fail (n : Int)) := ⟨0, rfl, by omega, by omega, fun _ => ⟨rfl, by unfold LLog.fail LLog.new; simp only; split <;> omega, rfl⟩, fun h => by omega⟩
theorem SMid.doc {L : LLog} (h : L.Ok) (hs : L.stopped = false) {k : Nat} (hk : L.all = stks k) : L.doc = LDoc.new.all (stks k) := by unfold LLog.doc; rw [h.kept_all hs, hk]
theorem SMid.no {n i : Nat} {L : LLog} (h : SMid n i L) (ok : L.Ok) : L.put noO = L ∧ L.putE noO = if n < i then 6 else 1 := by
  obtain ⟨k, h1, h2, h3, h4, h5⟩ := h
  by_cases hi : n < i
  · have hs := h5 hi
    exact ⟨by unfold LLog.put; rw [if_pos hs], by unfold LLog.putE; rw [if_pos hs, if_pos hi]⟩
  · obtain ⟨hs, _, _⟩ := h4 (by omega)
    obtain ⟨q1, q2⟩ := stks_no k (by omega)
    rw [← SMid.doc ok hs h1] at q1 q2
    exact ⟨by unfold LLog.put; rw [if_neg (by rw [hs]; decide), if_pos q1], by unfold LLog.putE; rw [if_neg (by rw [hs]; decide), if_pos (by rw [q2]; decide), q2, if_neg hi]⟩
theorem SMid.next {n i : Nat} {L : LLog} (h : SMid n i L) (ok : L.Ok) (hi : i < 20) : SMid n (i + 1) (L.put (stk ((i : Int) + 1))) ∧ L.putE (stk ((i : Int) + 1)) = if i < n then 0 else 6 := by
  obtain ⟨k, h1, h2, h3, h4, h5⟩ := h
  by_cases hn : n < i
  · have hs := h5 hn
    have e : L.put (stk ((i : Int) + 1)) = L := by unfold LLog.put; rw [if_pos hs]
    rw [e]
    exact ⟨⟨k, h1, h2, by omega, fun hh => by omega, fun _ => hs⟩, by unfold LLog.putE; rw [if_pos hs, if_neg (by omega)]⟩
  · obtain ⟨hs, hl, rfl⟩ := h4 (by omega)
    have hb : L.doc.applyB (stk ((k : Int) + 1)) = true := by rw [SMid.doc ok hs h1]; exact stks_go k (by omega)
    by_cases hz : L.left = 0
    · obtain ⟨q1, q2, q3, q4, q5⟩ := LLog.put_stop ok hs hb hz
      rw [q4, q1]
      exact ⟨⟨k + 1, by rw [h1, stks_succ], by omega, Nat.le_refl _, fun hh => by omega, fun _ => rfl⟩, by rw [if_neg (by omega)]⟩
    · obtain ⟨q1, q2, q3, q4, q5⟩ := LLog.put_go ok hs hb hz
      rw [q4, q1]
      refine ⟨⟨k + 1, by rw [h1, stks_succ], by omega, Nat.le_refl _, fun hh => ⟨rfl, ?_, rfl⟩, fun hh => by omega⟩, by rw [if_pos (by omega)]⟩
      show LLog.down L.left = _
      unfold LLog.down
      rw [if_neg (by omega), hl]; omega
/-- The same while it is told to sync. -/
def SEnd (n s : Nat) (L : LLog) : Prop := ∃ k, L.all = stks k ∧ k ≤ 21 ∧ (s ≤ n → L.stopped = false ∧ L.left = (n : Int) - s) ∧ (n < s → L.stopped = true)
theorem SMid.end_ {n i : Nat} {L : LLog} (h : SMid n i L) : SEnd n i L := by
  obtain ⟨k, h1, h2, h3, h4, h5⟩ := h
  exact ⟨k, h1, h2, fun hh => ⟨(h4 hh).1, (h4 hh).2.1⟩, h5⟩
theorem SEnd.next {n s : Nat} {L : LLog} (h : SEnd n s L) (hs : s ≤ n) : SEnd n (s + 1) L.sync ∧ L.syncE = if s = n then 6 else 0 := by
  obtain ⟨k, h1, h2, h4, h5⟩ := h
  obtain ⟨g1, g2⟩ := h4 hs
  by_cases hz : L.left = 0
  · refine ⟨⟨k, ?_, h2, fun hh => by omega, fun _ => ?_⟩, ?_⟩
    · unfold LLog.sync; rw [if_neg (by rw [g1]; decide), if_pos hz]; exact h1
    · unfold LLog.sync; rw [if_neg (by rw [g1]; decide), if_pos hz]
    · unfold LLog.syncE; rw [if_neg (by rw [g1]; decide), if_pos hz, if_pos (by omega)]
  · refine ⟨⟨k, ?_, h2, fun hh => ⟨?_, ?_⟩, fun hh => by omega⟩, ?_⟩
    · unfold LLog.sync; rw [if_neg (by rw [g1]; decide), if_neg hz]; exact h1
    · unfold LLog.sync; rw [if_neg (by rw [g1]; decide), if_neg hz]; exact g1
    · unfold LLog.sync; rw [if_neg (by rw [g1]; decide), if_neg hz]
      show LLog.down L.left = _
      unfold LLog.down
      rw [if_neg (by omega), g2]; omega
    · unfold LLog.syncE; rw [if_neg (by rw [g1]; decide), if_neg hz, if_neg (by omega)]
theorem SEnd.stop {n s : Nat} {L : LLog} (h : SEnd n s L) (hs : n < s) : L.sync = L ∧ L.syncE = 6 ∧ L.put pbO = L ∧ L.putE pbO = 6 := by
  obtain ⟨k, h1, h2, h4, h5⟩ := h
  have g := h5 hs
  exact ⟨by unfold LLog.sync; rw [if_pos g], by unfold LLog.syncE; rw [if_pos g], by unfold LLog.put; rw [if_pos g], by unfold LLog.putE; rw [if_pos g]⟩
theorem SEnd.crash {n s : Nat} {L : LLog} (h : SEnd n s L) (ok : L.Ok) (keep : Int) : (L.crash keep).putB pbO = true ∧ (L.crash keep).putE pbO = 0 ∧ ((L.crash keep).put pbO).syncE = 0 ∧ textOf (((L.crash keep).put pbO).sync).doc.book = ⟨#[104]⟩ := by
  obtain ⟨k, h1, h2, h4, h5⟩ := h
  obtain ⟨j, hj, hj2⟩ := stks_take k (whole L.all (L.high keep))
  have hc := ok.crash keep
  have hall : (L.crash keep).all = stks j := by rw [← hj2, ← h1]; rfl
  have hst : (L.crash keep).stopped = false := rfl
  have hle : (L.crash keep).left = -1 := rfl
  have hd := SMid.doc hc hst hall
  obtain ⟨q1, q2⟩ := stks_pb j (by omega)
  have hb : (L.crash keep).doc.applyB pbO = true := by rw [hd]; exact q1
  obtain ⟨p1, p2, p3, p4, p5⟩ := LLog.put_go hc hst hb (by rw [hle]; decide)
  refine ⟨p5, p4, ?_, ?_⟩
  · rw [p1]
    unfold LLog.syncE
    simp only
    rw [if_neg (by decide), hle, if_neg (by decide)]
  · have e : (((L.crash keep).put pbO).sync).doc = ((L.crash keep).put pbO).doc := by
      unfold LLog.sync
      split
      · rfl
      split <;> rfl
    rw [e, p2, hd]
    exact q2
end Go.Proofs.YtmpkgbkdndpnlaaGreatDoor
/- leaflaw3.LogStops, proved. Conditions: the library's one variable holds what its text lays (the card ties it). -/
namespace Go.Proofs.YtmpkgbkdndpnlaaGreatDoor
open Go.RowKit Go.WideShapes Go.ChangeShapes Go.ChangeAt
set_option linter.unusedVariables false
namespace lawLogStops
def Loop1 (w : World) (B b n many : Nat) (s i : Value) (wr : World) : Prop := ∃ (k : Nat) (L : LLog), k ≤ many ∧ i = .int .i64 (k : Nat) ∧ s = .int .i64 (k : Nat) ∧ Hid (LScene w B b L [] wr) ∧ Hid (SMid n k L)
def Loop2 (w : World) (B b n : Nat) (s : Value) (wr : World) : Prop := ∃ (k : Nat) (L : LLog), k ≤ 21 ∧ s = .int .i64 (k : Nat) ∧ Hid (LScene w B b L [] wr) ∧ Hid (SEnd n k L)
set_option maxRecDepth 100000 in
set_option maxHeartbeats 8000000 in
theorem walk (w : World) (after many keep : Int) (hglob : Glob w) (ha0 : -9223372036854775808 ≤ after) (ha1 : after ≤ 9223372036854775807) (hm0 : -9223372036854775808 ≤ many) (hm1 : many ≤ 9223372036854775807) (hk0 : -9223372036854775808 ≤ keep) (hk1 : keep ≤ 9223372036854775807) :
    Calls Tryz.prog 3 #[.int .i64 after, .int .i64 many, .int .i64 keep] w (CheckPost w (.bool true)) := by
  have HGL := Lib.hid hglob
  have HN := Lib.hid (lnew_any w)
  have HER := Lib.hid (fun W k e (hb : Below w.heap.size w W) => error_any W k e (HGL.out.below hb (Nat.le_refl _)))
  obtain ⟨bad, hbad⟩ : ∃ bad : Bool, bad = decide (after < 0 ∨ 20 < after ∨ many < 0 ∨ 20 < many) := ⟨_, rfl⟩
  have HBAD := Lib.hid hbad
  clear hglob hbad
  go_enter Tryz.func3, Tryz.ntmps3
  go_wp2_with fail
  refine HN.out.mono ?_
  intro e w1 hpost
  obtain ⟨b, rfl, hsc⟩ := LScene.make (Below.refl _ _) hpost
  have HS1 := Lib.hid hsc
  clear hpost hsc HN
  go_upto_region 2 with (fail)
  go_cut [41] (fun v wx => v = .bool bad ∧ Hid (wx = w1))
  case first =>
    by_cases h1 : after < 0
    · have HB : Hid (bad = true) := by show _ = _; rw [HBAD.out]; simp [h1]
      go_wp2_with fail
      go_meet
      case rel => exact ⟨by rw [HB.out], Lib.hid rfl⟩
    · by_cases h2 : 20 < after
      · have h2' : after > 20 := h2
        have HB : Hid (bad = true) := by show _ = _; rw [HBAD.out]; simp [h2]
        go_wp2_with fail
        go_meet
        case rel => exact ⟨by rw [HB.out], Lib.hid rfl⟩
      · have h2' : ¬ after > 20 := h2
        by_cases h3 : many < 0
        · have HB : Hid (bad = true) := by show _ = _; rw [HBAD.out]; simp [h3]
          go_wp2_with fail
          go_meet
          case rel => exact ⟨by rw [HB.out], Lib.hid rfl⟩
        · by_cases h4 : 20 < many
          · have h4' : many > 20 := h4
            have HB : Hid (bad = true) := by show _ = _; rw [HBAD.out]; simp [h4]
            go_wp2_with fail
            go_meet
            case rel => exact ⟨by rw [HB.out], Lib.hid rfl⟩
          · have h4' : ¬ many > 20 := h4
            have HB : Hid (bad = false) := by show _ = _; rw [HBAD.out]; simp [h1, h2, h3, h4]
            go_wp2_with fail
            go_meet
            case rel => exact ⟨by rw [HB.out], Lib.hid rfl⟩
  case rest =>
    obtain ⟨rfl, HW⟩ := hcut
    obtain rfl := HW.out
    clear HW
    cases hb : bad with
    | true =>
      go_wp2_with fail
      refine HS1.out.sync.mono ?_
      rintro e w2 ⟨rfl, h2⟩
      have HS2 := Lib.hid h2
      clear h2
      rw [show errV LLog.new.syncE = .nilIface from rfl]
      go_wp2_with fail
      go_ret
      exact ⟨rfl, HS2.out.below⟩
    | false =>
      have hr : ¬ (after < 0 ∨ 20 < after ∨ many < 0 ∨ 20 < many) := by
        have := HBAD.out; rw [hb] at this; simpa using this.symm
      obtain ⟨n, rfl⟩ : ∃ n : Nat, after = (n : Int) := ⟨after.toNat, by omega⟩
      obtain ⟨m, rfl⟩ : ∃ m : Nat, many = (m : Int) := ⟨many.toNat, by omega⟩
      have hn : n ≤ 20 := by omega
      have hm : m ≤ 20 := by omega
      clear hr HBAD hb
      go_wp2_with fail
      refine (HS1.out.fail (n : Int) (by omega) (by omega)).mono ?_
      rintro e w2 ⟨rfl, h2⟩
      have HS2 := Lib.hid h2
      have HM0 := Lib.hid (SMid.start (n := n))
      clear h2 HS1
      go_upto_block 0 with (fail)
      go_cut [8] (fun s wx => ∃ L, s = .int .i64 (m : Nat) ∧ Hid (LScene w w.heap.size b L [] wx) ∧ Hid (SMid n m L))
      case first =>
        go_wp2_with fail
        go_loopw [8, 9] (fun s i wr => Loop1 w w.heap.size b n m s i wr) (fun _ i _ => m - (intOf i).toNat)
        case atStart => exact ⟨0, _, Nat.zero_le _, rfl, rfl, HS2, HM0⟩
        case round =>
          obtain ⟨k, L, hk, rfl, rfl, HS, HM⟩ := hrel
          by_cases hkm : k < m
          · have k1 : (k : Int) < (m : Int) := by omega
            have k9 : (k : Int) ≤ 20 := by omega
            have k0 : (0 : Int) ≤ (k : Int) := by omega
            obtain ⟨g1, g2⟩ := HM.out.no HS.out.ok
            obtain ⟨e1, he1⟩ : ∃ e1, e1 = L.putE noO := ⟨_, rfl⟩
            have HP1 := Lib.hid (HS.out.put0 noO rfl (by decide))
            rw [g1, ← he1] at HP1
            obtain ⟨g3, g4⟩ := HM.out.next HS.out.ok (show k < 20 by omega)
            obtain ⟨L2, hL2⟩ : ∃ L2, L2 = L.put (stk ((k : Int) + 1)) := ⟨_, rfl⟩
            obtain ⟨e2, he2⟩ : ∃ e2, e2 = L.putE (stk ((k : Int) + 1)) := ⟨_, rfl⟩
            have HP2 := Lib.hid (fun W (hs : LScene w w.heap.size b L [] W) => hs.put0 (stk ((k : Int) + 1)) rfl (by show (⟨#[110, 98]⟩ : ByteArray).size ≤ 9223372036854775807; decide))
            rw [← hL2, ← he2] at HP2
            rw [← hL2] at g3
            rw [← he1] at g2
            rw [← he2] at g4
            obtain ⟨b1, hb1⟩ : ∃ b1, b1 = L.putB noO := ⟨_, rfl⟩
            obtain ⟨b2, hb2⟩ : ∃ b2, b2 = L.putB (stk ((k : Int) + 1)) := ⟨_, rfl⟩
            rw [← hb1] at HP1
            rw [← hb2] at HP2
            have HM2 := Lib.hid g3
            have HE1 := Lib.hid g2
            have HE2 := Lib.hid g4
            clear g1 g2 g3 g4 he1 hL2 he2 hb1 hb2 HM
            go_wp2_with fail
            refine HP1.out.mono ?_
            rintro e w3 ⟨rfl, h3⟩
            have HS3 := Lib.hid h3
            clear h3 HP1 HS
            go_wp2_with fail
            refine (HP2.out w3 HS3.out).mono ?_
            rintro e w4 ⟨rfl, h4⟩
            have HS4 := Lib.hid h4
            clear h4 HP2 HS3
            go_wp2_with fail
            refine (HER.out w4 e1 6 HS4.out.below).mono ?_
            rintro e w5 ⟨rfl, h5⟩
            have HS5 := Lib.hid (HS4.out.step h5)
            clear h5 HS4
            go_wp2_with fail
            refine (HER.out w5 e1 1 HS5.out.below).mono ?_
            rintro e w6 ⟨rfl, h6⟩
            have HS6 := Lib.hid (HS5.out.step h6)
            clear h6 HS5
            go_wp2_with fail
            refine (HER.out w6 e2 6 HS6.out.below).mono ?_
            rintro e w7 ⟨rfl, h7⟩
            have HS7 := Lib.hid (HS6.out.step h7)
            clear h7 HS6
            by_cases hlt : k < n
            · have x1 : e1 = 1 := by rw [HE1.out, if_neg (by omega)]
              have x2 : e2 = 0 := by rw [HE2.out, if_pos hlt]
              have y1 : ¬ (k : Int) > (n : Int) := by omega
              have y2 : (k : Int) ≤ (n : Int) := by omega
              have y3 : ((k : Int) == (n : Int)) = false := by simp; omega
              have y4 : (k : Int) < (n : Int) := by omega
              subst x1 x2
              rw [show errV 0 = .nilIface from rfl, show errV 1 = .iface 79 (.int .i64 1) by rw [errV, if_neg (by decide)], show ((1 : Int) == 6) = false from rfl, show ((1 : Int) == 1) = true from rfl, show ((0 : Int) == 6) = false from rfl]
              clear hlt
              go_wp2_with fail
              go_roundw
              case rel => exact ⟨k + 1, L2, by omega, by go_num, by go_num, HS7, HM2⟩
              case measure => simp [intOf]; omega
            · by_cases heq : k = n
              · have x1 : e1 = 1 := by rw [HE1.out, if_neg (by omega)]
                have x2 : e2 = 6 := by rw [HE2.out, if_neg hlt]
                have y1 : ¬ (k : Int) > (n : Int) := by omega
                have y2 : (k : Int) ≤ (n : Int) := by omega
                have y3 : ((k : Int) == (n : Int)) = true := by simp; omega
                have y4 : ¬ (k : Int) < (n : Int) := by omega
                subst x1 x2
                rw [show errV 6 = .iface 79 (.int .i64 6) by rw [errV, if_neg (by decide)], show errV 1 = .iface 79 (.int .i64 1) by rw [errV, if_neg (by decide)], show ((1 : Int) == 6) = false from rfl, show ((1 : Int) == 1) = true from rfl, show ((6 : Int) == 6) = true from rfl]
                clear hlt heq
                go_wp2_with fail
                go_roundw
                case rel => exact ⟨k + 1, L2, by omega, by go_num, by go_num, HS7, HM2⟩
                case measure => simp [intOf]; omega
              · have x1 : e1 = 6 := by rw [HE1.out, if_pos (by omega)]
                have x2 : e2 = 6 := by rw [HE2.out, if_neg hlt]
                have y1 : (k : Int) > (n : Int) := by omega
                have y1' : (n : Int) < (k : Int) := by omega
                have y2 : ¬ (k : Int) ≤ (n : Int) := by omega
                have y3 : ((k : Int) == (n : Int)) = false := by simp; omega
                have y4 : ¬ (k : Int) < (n : Int) := by omega
                subst x1 x2
                rw [show errV 6 = .iface 79 (.int .i64 6) by rw [errV, if_neg (by decide)], show ((6 : Int) == 1) = false from rfl, show ((6 : Int) == 6) = true from rfl]
                clear hlt heq
                go_wp2_with fail
                go_roundw
                case rel => exact ⟨k + 1, L2, by omega, by go_num, by go_num, HS7, HM2⟩
                case measure => simp [intOf]; omega
          · have k1 : ¬ (k : Int) < (m : Int) := by omega
            have hkm2 : k = m := by omega
            have HF : Hid (SMid n m L) := by rw [← hkm2]; exact HM
            have HKM : Hid (Value.int .i64 (k : Nat) = .int .i64 (m : Nat)) := by rw [hkm2]; exact Lib.hid rfl
            clear hkm hkm2 HM
            go_wp2_with fail
            go_meet
            case rel => exact ⟨L, HKM.out, HS, HF⟩
      case rest =>
        obtain ⟨L, rfl, HS, HM⟩ := hcut
        have HE0 : Hid (SEnd n m L) := HM.out.end_
        clear HS2 HM0 HM
        go_upto_block 2 with (fail)
        go_cut [8] (fun s wx => ∃ (k : Nat) (L : LLog), n < k ∧ Hid (LScene w w.heap.size b L [] wx) ∧ Hid (SEnd n k L))
        case first =>
          go_wp2_with fail
          go_loopw [8] (fun s wr => Loop2 w w.heap.size b n s wr) (fun s _ => 21 - (intOf s).toNat)
          case atStart => exact ⟨m, L, by omega, rfl, HS, HE0⟩
          case round =>
            obtain ⟨k, L2, hk, rfl, HS2, HE⟩ := hrel
            by_cases hkn : k ≤ n
            · have k1 : (k : Int) ≤ (n : Int) := by omega
              have k9 : (k : Int) ≤ 20 := by omega
              obtain ⟨g1, g2⟩ := HE.out.next hkn
              have HG1 := Lib.hid g1
              have HG2 := Lib.hid g2
              have HSY := Lib.hid HS2.out.sync
              clear g1 g2 HE
              go_wp2_with fail
              refine HSY.out.mono ?_
              rintro e w3 ⟨rfl, h3⟩
              have HS3 := Lib.hid h3
              clear h3 HS2 HSY
              by_cases heq : k = n
              · rw [show errV L2.syncE = .iface 79 (.int .i64 6) by rw [HG2.out, if_pos heq, errV, if_neg (by decide)]]
                have y3 : ((k : Int) == (n : Int)) = true := by simp; omega
                clear heq
                go_wp2_with fail
                go_roundw
                case rel => exact ⟨k + 1, _, by omega, by go_num, HS3, HG1⟩
                case measure => simp [intOf]; omega
              · rw [show errV L2.syncE = .nilIface by rw [HG2.out, if_neg heq]; rfl]
                have y3 : ((k : Int) == (n : Int)) = false := by simp; omega
                clear heq
                go_wp2_with fail
                go_roundw
                case rel => exact ⟨k + 1, _, by omega, by go_num, HS3, HG1⟩
                case measure => simp [intOf]; omega
            · have k1 : ¬ (k : Int) ≤ (n : Int) := by omega
              have HKN : Hid (n < k) := by show n < k; omega
              clear hkn
              go_wp2_with fail
              go_meet
              case rel => exact ⟨k, L2, HKN.out, HS2, HE⟩
        case rest =>
          obtain ⟨k, L2, hkn, HS2, HE⟩ := hcut
          obtain ⟨g1, g2, g3, g4⟩ := HE.out.stop hkn
          have HC := Lib.hid (HE.out.crash HS2.out.ok keep)
          have HG := Lib.hid (show L2.sync = L2 ∧ L2.syncE = 6 ∧ L2.put pbO = L2 ∧ L2.putE pbO = 6 from ⟨g1, g2, g3, g4⟩)
          clear g1 g2 g3 g4 HS HE0 hkn
          have HSA : Hid (LScene w w.heap.size b L2 [⟨wc.heap.size, 34, pbO.cells none 0⟩] (wc.alloc (.cells #[.int .i64 2, .int .i64 1, .int .i64 1, .string ⟨#[112, 98]⟩, .int .i64 104, .slice none 0 0] 34))) := HS2.out.lay 34 (pbO.cells none 0)
          obtain ⟨WA, hWA⟩ : ∃ WA, WA = wc.alloc (.cells #[.int .i64 2, .int .i64 1, .int .i64 1, .string ⟨#[112, 98]⟩, .int .i64 104, .slice none 0 0] 34) := ⟨_, rfl⟩
          obtain ⟨ga, hga⟩ : ∃ ga, ga = wc.heap.size := ⟨_, rfl⟩
          rw [← hWA, ← hga] at HSA
          have HPUT := Lib.hid (fun W (L : LLog) (hs : LScene w w.heap.size b L [⟨ga, 34, pbO.cells none 0⟩] W) => hs.put0 pbO rfl (by decide))
          have HCEL : Hid (∀ W (L : LLog), LScene w w.heap.size b L [⟨ga, 34, pbO.cells none 0⟩] W → W.cell? ⟨ga, 0, none⟩ = some (.int .i64 2) ∧ W.cell? ⟨ga, 1, none⟩ = some (.int .i64 1) ∧ W.cell? ⟨ga, 2, none⟩ = some (.int .i64 1) ∧ W.cell? ⟨ga, 3, none⟩ = some (.string ⟨#[112, 98]⟩) ∧ W.cell? ⟨ga, 4, none⟩ = some (.int .i64 104) ∧ W.cell? ⟨ga, 5, none⟩ = some (.slice none 0 0)) := fun W L hs => by
            have hb := hs.blk (x := ⟨ga, 34, pbO.cells none 0⟩) (by simp)
            exact ⟨by rw [hb.cell]; rfl, by rw [hb.cell]; rfl, by rw [hb.cell]; rfl, by rw [hb.cell]; rfl, by rw [hb.cell]; rfl, by rw [hb.cell]; rfl⟩
          clear HS2
          go_upto_region 23 with (fail)
          rw [← hWA, ← hga]
          clear hWA hga
          go_wp2_with fail
          refine HSA.out.sync.mono ?_
          rintro e w3 ⟨rfl, h3⟩
          rw [HG.out.1] at h3
          rw [HG.out.2.1]
          have HS3 := Lib.hid h3
          obtain ⟨c0, c1, c2, c3, c4, c5⟩ := HCEL.out w3 _ h3
          clear h3
          go_wp2_with fail
          refine (HPUT.out w3 _ HS3.out).mono ?_
          rintro e w4 ⟨rfl, h4⟩
          rw [HG.out.2.2.1] at h4
          rw [HG.out.2.2.2]
          have HS4 := Lib.hid h4
          obtain ⟨b1, hb1⟩ : ∃ b1, b1 = L2.putB pbO := ⟨_, rfl⟩
          rw [← hb1]
          clear h4 c0 c1 c2 c3 c4 c5 hb1
          go_wp2_with fail
          refine (HER.out w4 6 6 HS4.out.below).mono ?_
          rintro e w5 ⟨rfl, h5⟩
          have HS5 := Lib.hid (HS4.out.step h5)
          rw [show ((6 : Int) == 6) = true from rfl]
          clear h5 HS4
          go_wp2_with fail
          refine (HER.out w5 6 6 HS5.out.below).mono ?_
          rintro e w6 ⟨rfl, h6⟩
          have HS6 := Lib.hid (HS5.out.step h6)
          rw [show ((6 : Int) == 6) = true from rfl]
          clear h6 HS5
          go_wp2_with fail
          refine (HS6.out.crash keep hk0 hk1).mono ?_
          rintro e w7 ⟨rfl, h7⟩
          have HS7 := Lib.hid h7
          obtain ⟨c0, c1, c2, c3, c4, c5⟩ := HCEL.out w7 _ h7
          clear h7 HS6
          go_wp2_with fail
          refine (HPUT.out w7 _ HS7.out).mono ?_
          rintro e w8 ⟨rfl, h8⟩
          rw [HC.out.1, HC.out.2.1, show errV 0 = .nilIface from rfl]
          have HS8 := Lib.hid h8
          clear h8 c0 c1 c2 c3 c4 c5 HS7
          go_wp2_with fail
          refine HS8.out.sync.mono ?_
          rintro e w9 ⟨rfl, h9⟩
          rw [HC.out.2.2.1, show errV 0 = .nilIface from rfl]
          have HS9 := Lib.hid h9
          clear h9 HS8
          go_wp2_with fail
          refine HS9.out.doc.mono ?_
          rintro e w10 ⟨bd, SD, D, rfl, hw, hdoc, hok⟩
          obtain rfl := hw.symm
          have HTX := Lib.hid (text_doc w9 _ SD bd _ D hdoc hok)
          rw [HC.out.2.2.2] at HTX
          clear hw hdoc hok
          go_wp2_with fail
          refine HTX.out.mono ?_
          rintro e w11 ⟨rfl, h11⟩
          have HS11 := Lib.hid (HS9.out.step h11)
          clear h11
          go_wp2_with fail
          go_ret
          exact ⟨rfl, HS11.out.below⟩
set_option maxRecDepth 100000 in
theorem lifted (os : Os) (started : os.Started) (H : Type) (enc : TypeId × Value → H) :
    ReturnsInHanded {} Tryz.checked os 3 .any (fun w args => (Rows.logStopsSpec.pre enc Tryz.prog Tryz.f3 [] false w args ∧ laidMetH Tryz.prog Card.laid w) ∧ sizedMet enc Tryz.prog Tryz.f3 (OpenSpec.ofChange Rows.logStopsSpec) false w args)
      (Rows.logStopsSpec.post enc Tryz.prog Tryz.f3 false true false false) := by
  refine returnsInHanded_of_change_and (C := Tryz.checked) (X := fun w _ => laidMetH Tryz.prog Card.laid w) (fun _ _ _ hh h => h.of_heap hh) Tryz.own started (by kernel_rfl) Tryz.func3
    (ChangeSpec.witness_at (enc := enc) (C := Tryz.checked) (os := os) (X := fun w _ => laidMetH Tryz.prog Card.laid w) false (Card.laidWorld os) #[.int .i64 0, .int .i64 0, .int .i64 0] 8 rfl (by kernel_rfl) (by kernel_rfl) (by kernel_rfl) (by kernel_rfl) (by kernel_rfl) (Card.laidWorld_met os _)) ?_
  intro W base args ds gs before hval0 hW _ hsz0 hL _
  have hval : ∀ (j : Nat) t v, Tryz.f3.params[j]? = some t → args[j]? = some v → Value.okWide Tryz.prog W .any base t v := hval0
  obtain ⟨p, q, hA0, _⟩ := id hW
  have hA : DataW.TrodAll enc Tryz.prog W 0 (fun _ => true) true Tryz.f3.params.toList args.toList ds p := hA0
  have hsz : (DataW.weightsEach Tryz.prog (Tryz.f3.params.toList ++ Rows.logStopsSpec.plain.varTypes Tryz.prog) (ds ++ gs)).all (· ≤ reachBytes) = true := hsz0
  rw [Tryz.params3] at hA hval hsz
  obtain ⟨v0, v1, v2, d0, d1, d2, p0, p1, p2, rfl, rfl, rfl, h0, h1, h2⟩ := trodAll_three hA
  obtain ⟨a0, rfl, rfl, rfl, wa0⟩ := open_int Tryz.underlying3 (hval 0 3 v0 rfl rfl) h0
  obtain ⟨a1, rfl, rfl, rfl, wa1⟩ := open_int Tryz.underlying3 (hval 1 3 v1 rfl rfl) h1
  obtain ⟨a2, rfl, rfl, rfl, wa2⟩ := open_int Tryz.underlying3 (hval 2 3 v2 rfl rfl) h2
  refine (walk W a0 a1 a2 (Card.glob_of_laid hL) (i64_of_wf wa0).1 (i64_of_wf wa0).2 (i64_of_wf wa1).1 (i64_of_wf wa1).2 (i64_of_wf wa2).1 (i64_of_wf wa2).2).mono fun e W' ⟨he, hb⟩ => ⟨_, he, ?_⟩
  exact law_post Tryz.laidOut (tb := 4) (by kernel_rfl) Tryz.underlying4 (by rw [Tryz.params3]; simp only [List.mem_cons, List.not_mem_nil, or_false]; rintro t (rfl | rfl | rfl) <;> exact ⟨by kernel_rfl, of_decide_eq_true (by kernel_rfl)⟩) rfl rfl hW hb

theorem holds : Rows.LogStopsSaid :=
  OpenClaim.holds_of_wide 3 Tryz.f3 rfl rfl rfl rfl rfl rfl rfl ⟨rfl, rfl, rfl, rfl, rfl⟩ rfl rfl rfl rfl rfl (by kernel_rfl) Tryz.func3 (by kernel_rfl)
    (of_decide_eq_true (by kernel_rfl)) (by unfold Func.isWrapper; first | (rw [if_pos (by decide +kernel)]; kernel_rfl) | (rw [if_neg (by decide +kernel)]; exact ⟨rfl, rfl⟩))
    (fun os started H enc _ => lifted os started H enc)
theorem noStand : ∀ t ∈ Tryz.f3.params.toList, Tryz.prog.wantsStandIn t = false := by
  rw [Tryz.params3]
  simp only [List.mem_cons, List.not_mem_nil, or_false]
  rintro t (rfl | rfl | rfl) <;> kernel_rfl
theorem card_holds : Rows.LogStopsCardSaid :=
  Claim7.holds_tied_plain_at .later [] [.handle] true Rows.logStopsCard.stood.harness true
    holds (fun _ h => by cases h) (by kernel_rfl) (fun _ h => by cases h) logStops_row_tie rfl ⟨rfl, rfl⟩ (by kernel_rfl) rfl
    (fun f fn hf hfn => by
      obtain rfl : f = 3 := Option.some.inj ((show Tryz.prog.funcNamed Rows.logStopsRow.func = some 3 by kernel_rfl).symm.trans hf) |>.symm
      obtain rfl : fn = Tryz.f3 := (Option.some.inj (Tryz.func3.symm.trans hfn)).symm
      exact ⟨by kernel_rfl, fun j t ht => noStand t (by
        have := Array.mem_of_getElem? ht
        simpa using this)⟩)
    (by kernel_rfl)
#print axioms card_holds
end lawLogStops
end Go.Proofs.YtmpkgbkdndpnlaaGreatDoor

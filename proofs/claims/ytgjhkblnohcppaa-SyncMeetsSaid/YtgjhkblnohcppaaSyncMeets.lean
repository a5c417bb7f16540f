/- 2 texts in one: each says ahead of itself what is proved, and its conditions. -/
import Derived.Below
import Derived.Deep.CutBlock
import Derived.Deep.RegionHeld3
import Derived.ProofKit
import Derived.Test.YtgjhkblnohcppaaRows
import Derived.WalkKit
import Derived.Test.YtgjhkblnohcppaaOpen
import Derived.Test.YtgjhkblnohcppaaOpenLink
import Derived.Test.YtgjhkblnohcppaaSameOp
import Derived.Test.YtgjhkblnohcppaaSyncOut
/- From a walk to a given statement: one theorem that serves every law of the seat. Conditions: none of our own. -/
namespace Go.Proofs.Ytgjhkblnohcppaa
open Go.RowKit Go.WideShapes Go.ChangeShapes Go.ChangeAt
set_option linter.unusedVariables false

section
variable {H : Type} {enc : TypeId × Value → H} {P : Program}

theorem post_of_below {f : Func} {s : ChangeSpec} {apart fresh handsOn again : Bool} {W W' : World} {args : Array Value} {v : Value} {ds gs : List (DataW H)} {before pa pv : List MemPlace}
    (hW : DataW.Whole enc P f.params.toList s.vars apart W args.toList ds gs before)
    (hres : ∀ (b : Nat) (sp : Nat → Bool) (hd : Bool), DataW.TrodAll enc P W' b sp hd f.resultTypes.toList (v.resultList f.resultTypes.size) (s.fn H (ds ++ gs)).results [])
    (hargs : ∀ sp : Nat → Bool, (∀ p ∈ before, sp p.block = true) → DataW.TrodAll enc P W' 0 sp true f.params.toList args.toList (s.fn H (ds ++ gs)).args pa)
    (hvars : ∀ sp : Nat → Bool, (∀ p ∈ before, sp p.block = true) → DataW.TrodVars enc P W' sp s.vars (s.fn H (ds ++ gs)).vars pv)
    (hps : before = pa ++ pv) (hb : Below W.heap.size W W')
    (hok : ∀ (j : Nat) (t : TypeId) (r : Value), f.resultTypes[j]? = some t → (v.resultList f.resultTypes.size)[j]? = some r → Value.okWide P W' .any 0 t r) :
    s.post enc P f apart fresh handsOn again W args v W' := by
  have hlt : ∀ p ∈ before, p.block < W.heap.size := fun p hp => hW.lt p hp
  have hold : ∀ p ∈ before, (fun b => decide (b < W.heap.size)) p.block = true := fun p hp => by simpa using hlt p hp
  refine ⟨ds, gs, before, [], pa, pv, hW, hres _ _ _, hargs _ hold, hvars _ hold, World.keptBut_mono (fun p hp => ⟨hp, ?_⟩) (hb.frame (· ∈ before)), fun _ => ?_⟩
  · rw [hps, List.mem_append] at hp
    exact Or.inr hp
  · obtain ⟨_, _, _, _, _, hz, hn⟩ := hW
    refine ⟨hok, _, _, ([] ++ pa) ++ pv, ⟨[] ++ pa, pv, trodAll_append (hargs _ (fun _ _ => rfl)) (hres _ _ _), hvars _ (fun _ _ => rfl), rfl, ?_, ?_⟩, ?_⟩
    · intro b off hp
      have hin : MemPlace.cell b off ∈ before := by rw [hps]; simpa using hp
      rw [hb.frozen (hlt _ hin)]
      exact hz b off hin
    · intro ha
      have := hn ha
      rw [hps] at this
      simpa using this
    · intro p hp _
      rw [hps]
      simpa using hp

theorem trodAll_below (hl : laidOutB P = true) {W W' : World} (hb : Below W.heap.size W W') {sp : Nat → Bool} :
    ∀ (ts : List TypeId) (vs : List Value) (ds : List (DataW H)) (ps : List MemPlace), (∀ t ∈ ts, P.readableRec t = true ∧ t < P.types.size) → (∀ p ∈ ps, p.block < W.heap.size) → (∀ p ∈ ps, sp p.block = true) →
      DataW.TrodAll enc P W 0 (fun _ => true) true ts vs ds ps → DataW.TrodAll enc P W' 0 sp true ts vs ds ps := by
  intro ts
  induction ts with
  | nil => intro vs ds ps _ _ _ h; cases vs <;> cases ds <;> simp_all [DataW.TrodAll]
  | cons t ts ih =>
    intro vs ds ps ht hlt hs h
    cases vs with
    | nil => simp [DataW.TrodAll] at h
    | cons v vs =>
      cases ds with
      | nil => simp [DataW.TrodAll] at h
      | cons d ds =>
        obtain ⟨p, q, h1, h2, rfl⟩ := h
        exact ⟨p, q, WideElems.Trod_stays hl (ht t (by simp)).1 (ht t (by simp)).2 h1 (fun x hx => hb.same (hlt x (by simp [hx]))) (fun x hx => hs x (by simp [hx])),
          ih vs ds q (fun t' h' => ht t' (by simp [h'])) (fun x hx => hlt x (by simp [hx])) (fun x hx => hs x (by simp [hx])) h2, rfl⟩

/-- A law: it answered true, and nothing that was there has turned. -/
theorem law_post (hl : laidOutB P = true) {f : Func} {s : ChangeSpec} {apart fresh handsOn again : Bool} {tb : TypeId} {W W' : World} {args : Array Value} {ds gs : List (DataW H)} {before : List MemPlace}
    (hr : f.resultTypes = #[tb]) (htb : P.underlying tb = some .bool) (hp : ∀ t ∈ f.params.toList, P.readableRec t = true ∧ t < P.types.size) (hv : s.vars = [])
    (hfn : s.fn H ds = { results := [.lit (.bool true)], args := ds })
    (hW : DataW.Whole enc P f.params.toList s.vars apart W args.toList ds gs before) (hb : Below W.heap.size W W') :
    s.post enc P f apart fresh handsOn again W args (.bool true) W' := by
  have hW' := hW
  obtain ⟨p, q, hA, hV, hpq, hfz, hnd⟩ := hW
  have hlt : ∀ x ∈ before, x.block < W.heap.size := fun x hx => hW'.lt x hx
  rw [hv] at hV
  obtain ⟨hgs, hq⟩ := trodVars_none hV
  subst hgs; subst hq
  simp only [List.append_nil] at hpq
  subst hpq
  refine post_of_below (pa := before) (pv := []) hW' ?_ ?_ ?_ (by simp) hb ?_
  · intro b sp hd
    rw [List.append_nil, hfn, hr]
    exact trodAll_mk1 (shut_bool htb _)
  · intro sp hs
    rw [List.append_nil, hfn]
    exact trodAll_below hl hb _ _ _ _ hp hlt hs hA
  · intro sp hs
    rw [List.append_nil, hfn, hv]
    exact rfl
  · exact ok_one hr rfl (okWide_bool_mk htb _)
end

theorem Try.own : ownKnob Try.prog.godebug = none := by kernel_rfl
theorem Try.laidOut : laidOutB Try.prog = true := by kernel_rfl
end Go.Proofs.Ytgjhkblnohcppaa
/- leaflaw2.SyncMeets, proved: two that have what the other one has know the same, and have the same book, if all was taken; and lack nothing more. Conditions: none of our own. -/
namespace Go.Proofs.Ytgjhkblnohcppaa
open Go.RowKit Go.WideShapes Go.ChangeShapes Go.ChangeAt
set_option linter.unusedVariables false
/-- A document to which ops of a row were applied. -/
structure Taken (l : List OpAt) (k : Nat) (st : LDoc) : Prop where
  ok : st.Ok
  says : Says st.ops st
  num : Numbered st.ops
  from_ : ∀ o ∈ st.ops, ∃ (j : Nat) (hj : j < l.length), j < k ∧ l[j].op = o
theorem Taken.new (l : List OpAt) : Taken l 0 LDoc.new := ⟨LDoc.new_ok, Says.new, Numbered.nil, by simp [LDoc.new]⟩
theorem Taken.more {l : List OpAt} {k m : Nat} {st : LDoc} (h : Taken l k st) (hm : k ≤ m) : Taken l m st :=
  ⟨h.ok, h.says, h.num, fun o ho => by obtain ⟨j, hj, h1, h2⟩ := h.from_ o ho; exact ⟨j, hj, by omega, h2⟩⟩
theorem Taken.next {l : List OpAt} {k : Nat} {st : LDoc} (h : Taken l k st) (hk : k < l.length) : Taken l (k + 1) (st.apply l[k].op) := by
  refine ⟨LDoc.apply_ok h.ok _, LDoc.apply_says h.ok h.says _, LDoc.apply_numbered h.ok h.says h.num _, fun o ho => ?_⟩
  have hold : o ∈ st.ops → ∃ (j : Nat) (hj : j < l.length), j < k + 1 ∧ l[j].op = o := fun ho => by
    obtain ⟨j, hj, h1, h2⟩ := h.from_ o ho
    exact ⟨j, hj, by omega, h2⟩
  rcases LDoc.apply_three (d := st) l[k].op with ⟨_, _, q⟩ | ⟨_, _, q⟩ | ⟨_, _, q⟩
  · rw [q] at ho
    rcases List.mem_append.1 ho with ho | ho
    · exact hold ho
    · simp at ho; subst ho; exact ⟨k, hk, by omega, rfl⟩
  · rw [q] at ho; exact hold ho
  · rw [q] at ho; exact hold ho
theorem Scene.roundL {w wr : World} {B b1 b2 : Nat} {s1 s2 : LDoc} (h : Scene w B b1 b2 s1 s2 [] wr) (ok : s1.Ok) {A : Option Addr} {ys : List OpAt} (hr : Reads w w.heap.size 6 A ys.length (ocells ys)) (hg : ∀ y ∈ ys, y.Good w) {k : Nat} (hk : k < ys.length) :
    ∃ ad who nn what p letter seen ya yc, A = some ad ∧ wr.cell? (ad.add (k * 6)) = some (.int .i64 who) ∧ wr.cell? ⟨(ad.add (k * 6)).block, (ad.add (k * 6)).off + 1, none⟩ = some (.int .i64 nn) ∧ wr.cell? ⟨(ad.add (k * 6)).block, (ad.add (k * 6)).off + 2, none⟩ = some (.int .i64 what) ∧
      wr.cell? ⟨(ad.add (k * 6)).block, (ad.add (k * 6)).off + 3, none⟩ = some (.string p) ∧ wr.cell? ⟨(ad.add (k * 6)).block, (ad.add (k * 6)).off + 4, none⟩ = some (.int .i64 letter) ∧ wr.cell? ⟨(ad.add (k * 6)).block, (ad.add (k * 6)).off + 5, none⟩ = some (.slice ya seen yc) ∧
      Calls Try.prog 31 #[.pointer (some ⟨b1, 0, none⟩), .agg #[.int .i64 who, .int .i64 nn, .int .i64 what, .string p, .int .i64 letter, .slice ya seen yc]] wr (fun e w' => (∃ (is : Bool) (ke : Int), e = .returned (.tuple #[.bool is, errV ke])) ∧ Scene w B b1 b2 (s1.apply ys[k].op) s2 [] w') := by
  obtain ⟨S1, S2, D1, D2, h1, h2⟩ := h
  have hbw := h1.below
  obtain ⟨ad, rfl, hab, c0', c1', c2', c3', c4', c5'⟩ := ((hr.below hbw).more hbw.size).op hk
  have hgood := (hg _ (List.getElem_mem hk)).below hbw
  have hps := hgood.2.1
  have hfar : 0 < ys[k].op.seen.length → ∀ g ∈ ob ys[k].at_, g ∉ S1 := (hg _ (List.getElem_mem hk)).1.far (fun g hg => by have := (h1.one.own g hg).1; have := h1.base; omega)
  have HA := apply_doc wr _ _ _ _ _ h1.one ok ys[k].op ys[k].at_ ys[k].cap (by unfold maxLen at hps; omega) hgood.1 hfar
  refine ⟨ad, _, _, _, _, _, _, _, _, rfl, c0', c1', c2', c3', c4', c5', HA.mono ?_⟩
  rintro e w' ⟨rfl, ht⟩
  obtain ⟨S', D', g1, _, _⟩ := h1.left ht
  exact ⟨⟨_, _, rfl⟩, Scene.of_docs g1⟩
theorem Scene.each_ {w wr : World} {B b1 b2 : Nat} {s1 s2 : LDoc} {rows : List (Option Addr × List OpAt)} (h : Scene w B b1 b2 s1 s2 rows wr) {V : Option Addr} {zs : List OpAt} (hr : (V, zs) ∈ rows) : (∀ y ∈ zs, Reads wr wr.heap.size 2 y.at_ y.op.seen.length (dcells y.op.seen)) ∧ ∀ y ∈ zs, y.op.place.size ≤ 9223372036854775807 := by
  obtain ⟨S1, S2, D1, D2, h1, h2⟩ := h
  exact ⟨fun y hy => ((h2 _ hr).each y hy).1, fun y hy => ((h2 _ hr).each y hy).2.1⟩
theorem op_cells {w : World} {B : Nat} {ad : Addr} {l : List OpAt} (h : Reads w B 6 (some ad) l.length (ocells l)) {k : Nat} (hk : k < l.length) : ∀ W, Below B w W → W.cell? (ad.add (k * 6)) = some (.int .i64 l[k].op.dot.who) ∧ W.cell? ⟨(ad.add (k * 6)).block, (ad.add (k * 6)).off + 1, none⟩ = some (.int .i64 l[k].op.dot.n) ∧
    W.cell? ⟨(ad.add (k * 6)).block, (ad.add (k * 6)).off + 2, none⟩ = some (.int .i64 l[k].op.what) ∧ W.cell? ⟨(ad.add (k * 6)).block, (ad.add (k * 6)).off + 3, none⟩ = some (.string l[k].op.place) ∧ W.cell? ⟨(ad.add (k * 6)).block, (ad.add (k * 6)).off + 4, none⟩ = some (.int .i64 l[k].op.letter) ∧
    W.cell? ⟨(ad.add (k * 6)).block, (ad.add (k * 6)).off + 5, none⟩ = some (.slice l[k].at_ l[k].op.seen.length l[k].cap) := fun W hb => by
  obtain ⟨ad', e, _, hh⟩ := (h.below hb).op hk
  injection e with e
  subst e
  exact hh
theorem seen_small {w : World} {y : OpAt} (h : y.Good w) : y.op.seen.length ≤ 9223372036854775807 := by
  have h1 := h.2.2.2.2.2.2
  unfold maxLen at h1
  omega
/-- Ops of two rows, so far: of one dot they are the same. -/
def Agr (ks ls : List OpAt) (i j : Nat) : Prop := ∀ i' (hi : i' < ks.length) j' (hj : j' < ls.length), j' < 60 → (i' < i ∨ (i' = i ∧ j' < j)) → ks[i'].op.dot = ls[j'].op.dot → ks[i'].op = ls[j'].op
theorem Agr.next {ks ls : List OpAt} {i j : Nat} (h : Agr ks ls i j) (hi : i < ks.length) (hj : j < ls.length) (hd : ks[i].op.dot = ls[j].op.dot → ks[i].op = ls[j].op) : Agr ks ls i (j + 1) := fun i' hi' j' hj' h60 hc he => by
  by_cases hc2 : i' < i ∨ (i' = i ∧ j' < j)
  · exact h i' hi' j' hj' h60 hc2 he
  · obtain ⟨rfl, rfl⟩ : i' = i ∧ j' = j := by omega
    exact hd he
theorem Agr.row {ks ls : List OpAt} {i j : Nat} (h : Agr ks ls i j) (hj : j = 60 ∨ j = ls.length) : Agr ks ls (i + 1) 0 := fun i' hi' j' hj' h60 hc he => h i' hi' j' hj' h60 (by omega) he
theorem Agr.all {ks ls : List OpAt} {i n : Nat} (h : Agr ks ls i 0) (hn : i = 60 ∨ i = ks.length) {a b : LDoc} (ha : Taken ls 60 a) (hb : Taken ks 60 b) : LDoc.Agree a.ops b.ops := fun x hx y hy hd => by
  obtain ⟨j, hj, h1, rfl⟩ := ha.from_ x hx
  obtain ⟨i', hi, h2, rfl⟩ := hb.from_ y hy
  exact (h i' hi j hj h1 (by omega) hd.symm).symm
namespace lawSyncMeets
theorem hi_n : LDoc.bothN hiDoc LDoc.new = 2 := by decide +kernel
theorem hi_m : LDoc.bothM hiDoc LDoc.new = 0 := by decide +kernel
theorem hi_e : LDoc.bothE hiDoc LDoc.new = 0 := by decide +kernel
theorem hi_t : textOf (LDoc.gave hiDoc LDoc.new).book = ⟨#[104, 105]⟩ := by decide +kernel
def LoopA (w : World) (B ba bb : Nat) (ls : List OpAt) (i : Value) (wr : World) : Prop := ∃ (k : Nat) (st : LDoc), k ≤ 60 ∧ i = .int .i64 k ∧ Hid (Scene w B ba bb st LDoc.new [] wr) ∧ Hid (Taken ls k st)
def LoopB (w : World) (B ba bb : Nat) (sa : LDoc) (ks : List OpAt) (i : Value) (wr : World) : Prop := ∃ (k : Nat) (st : LDoc), k ≤ 60 ∧ i = .int .i64 k ∧ Hid (Scene w B bb ba st sa [] wr) ∧ Hid (Taken ks k st)
def LoopC (w : World) (B ba bb : Nat) (sa sb : LDoc) (ks ls : List OpAt) (i : Value) (wr : World) : Prop := ∃ k : Nat, k ≤ 60 ∧ k ≤ ks.length ∧ i = .int .i64 k ∧ Hid (Scene w B ba bb sa sb [] wr) ∧ Hid (Agr ks ls k 0)
def LoopD (w : World) (B ba bb : Nat) (sa sb : LDoc) (ks ls : List OpAt) (k : Nat) (j : Value) (wr : World) : Prop := ∃ n : Nat, n ≤ 60 ∧ n ≤ ls.length ∧ j = .int .i64 n ∧ Hid (Scene w B ba bb sa sb [] wr) ∧ Hid (Agr ks ls k n)
set_option maxRecDepth 100000 in
set_option maxHeartbeats 16000000 in
theorem walk (w : World) (A0 : Option Addr) (c0 : Nat) (ls : List OpAt) (A1 : Option Addr) (c1 : Nat) (ks : List OpAt) (h0 : Reads w w.heap.size 6 A0 ls.length (ocells ls)) (hg0 : ∀ y ∈ ls, y.Good w) (h1 : Reads w w.heap.size 6 A1 ks.length (ocells ks)) (hg1 : ∀ y ∈ ks, y.Good w)
    (hn0 : ls.length ≤ 9223372036854775807) (hn1 : ks.length ≤ 9223372036854775807) :
    Calls Try.prog 7 #[.slice A0 ls.length c0, .slice A1 ks.length c1] w (CheckPost w (.bool true)) := by
  have HR0 := Lib.hid h0
  have HG0 := Lib.hid hg0
  have HR1 := Lib.hid h1
  have HG1 := Lib.hid hg1
  have HE0 : errV 0 = .nilIface := rfl
  have HN := Lib.hid (fun W => new_doc W)
  clear h0 hg0 h1 hg1
  go_enter Try.func7, Try.ntmps7
  go_wp2_with fail
  refine (HN.out w).mono ?_
  rintro e w1 ⟨b1, S1, D1, rfl, hd1, hb1⟩
  have HD1 := Lib.hid hd1
  have HB1 := Lib.hid hb1
  have HI := Lib.hid (insert_any w1 _ _ _ _ _ hd1 LDoc.new_ok 1 0 hiT (by decide) (by decide) (by decide) (by decide))
  clear hd1 hb1
  go_wp2_with fail
  refine HI.out.mono ?_
  rintro e w2 ⟨V2, c2, zs, rfl, hz1, hz2, hb2⟩
  rw [hi_ins, HE0]
  have HDO := Lib.hid (do_ins HD1.out LDoc.new_ok hz1 hz2 hb2)
  rw [hi_do] at HDO
  have HB2 := Lib.hid (HB1.out.trans (hb2.mono HB1.out.size))
  have HS1 : Hid (∀ g ∈ S1, w.heap.size ≤ g) := fun g hg => (HD1.out.own g hg).1
  clear hz1 hz2 hb2 HI HD1 HB1
  go_wp2_with fail
  refine HDO.out.mono ?_
  rintro e w3 ⟨rfl, S3, D3, hd3, ho3, hs3⟩
  rw [HE0]
  have HB3 := Lib.hid (HB2.out.trans (ho3.below HB2.out.size HS1.out))
  have HD3 : Hid (DocIs w3 w.heap.size S3 b1 hiDoc D3) := hd3
  clear hd3 ho3 hs3 HDO HB2 HS1
  go_wp2_with fail
  refine (HN.out w3).mono ?_
  rintro e w4 ⟨b2, S4, D4, rfl, hd4, hb4⟩
  have HS4 : Hid (Scene w w.heap.size b1 b2 hiDoc LDoc.new [] w4) := Scene.of_docs (Docs2.make HB3.out (Nat.le_refl _) HD3.out hb4 hd4)
  have HBO := Lib.hid (HS4.out.both hi_ok LDoc.new_ok)
  rw [hi_n, hi_m, hi_e] at HBO
  clear hd4 hb4 HD3 HB3
  go_wp2_with fail
  refine HBO.out.mono ?_
  rintro e w5 ⟨rfl, hs⟩
  rw [HE0]
  have HTX := Lib.hid (hs.textR (LDoc.doR_ok _ LDoc.new_ok))
  have hti : textOf (LDoc.new.doR (lacksR hiDoc.ops LDoc.new.known)).book = ⟨#[104, 105]⟩ := hi_t
  have HTI := Lib.hid hi_t
  rw [HTI.out] at HTX
  clear hs HBO HS4 hti
  go_wp2_with fail
  refine HTX.out.mono ?_
  rintro e w6 ⟨rfl, hb, hs⟩
  have HB6 := Lib.hid hs.below
  clear hb hs HTX
  go_wp2_with fail
  refine (HN.out w6).mono ?_
  rintro e w7 ⟨ba, S7, D7, rfl, hd7, hb7⟩
  have HD7 := Lib.hid hd7
  have HB7 := Lib.hid (HB6.out.trans (hb7.mono HB6.out.size))
  clear hd7 hb7
  go_wp2_with fail
  refine (HN.out w7).mono ?_
  rintro e w8 ⟨bb, S8, D8, rfl, hd8, hb8⟩
  have HS8 : Hid (Scene w w6.heap.size ba bb LDoc.new LDoc.new [] w8) := Scene.of_docs (Docs2.make HB7.out HB6.out.size HD7.out hb8 hd8)
  clear hd8 hb8 HD7 HB7 HB6 HN
  generalize w6.heap.size = B at *
  go_upto_block 0 with (fail)
  go_cut [14] (fun _ wx => ∃ st, Scene w B ba bb st LDoc.new [] wx ∧ Taken ls 60 st)
  case first =>
    go_wp2_with fail
    go_loopw [14] (fun i wr => LoopA w B ba bb ls i wr) (fun i _ => 60 - (intOf i).toNat)
    case atStart => exact ⟨0, _, by omega, rfl, HS8.out, Taken.new ls⟩
    case round =>
      obtain ⟨k, st, hk, rfl, HK, HT⟩ := hrel
      have k0 : (0 : Int) ≤ (k : Int) := by omega
      by_cases h1 : k < ls.length
      · have k1 : (k : Int) < (ls.length : Int) := by omega
        by_cases h2 : k < 60
        · have k2 : (k : Int) < 60 := by omega
          obtain ⟨ad, who', nn, what, p', letter', seen, ya, yc, rfl, d0, d1, d2, d3, d4, d5, hC⟩ := HK.out.roundL HT.out.ok HR0.out HG0.out h1
          have HC := Lib.hid hC
          have HT2 := Lib.hid (HT.out.next h1)
          clear hC HK HT
          go_wp2_with fail
          refine HC.out.mono ?_
          rintro e w9 ⟨⟨is, ke, rfl⟩, hD⟩
          have HDX := Lib.hid hD
          clear hD HC
          go_wp2_with fail
          go_roundw
          case rel => exact ⟨k + 1, _, by omega, by go_num, HDX.out, HT2⟩
          case measure => simp [intOf]; omega
        · have k2 : ¬ (k : Int) < 60 := by omega
          have HF := Lib.hid (HT.out.more (m := 60) (by omega))
          go_wp2_with fail
          go_meet
          case rel => exact ⟨st, HK.out, HF.out⟩
      · have k1 : ¬ (k : Int) < (ls.length : Int) := by omega
        have HF := Lib.hid (HT.out.more (m := 60) (by omega))
        go_wp2_with fail
        go_meet
        case rel => exact ⟨st, HK.out, HF.out⟩
  case rest =>
    obtain ⟨sa, hsa, hta⟩ := hcut
    have HSA := Lib.hid hsa.swap
    have HTA := Lib.hid hta
    clear hsa hta HS8
    go_upto_block 2 with (fail)
    go_cut [15] (fun _ wx => ∃ st, Scene w B ba bb sa st [] wx ∧ Taken ks 60 st)
    case first =>
      go_wp2_with fail
      go_loopw [15] (fun i wr => LoopB w B ba bb sa ks i wr) (fun i _ => 60 - (intOf i).toNat)
      case atStart => exact ⟨0, _, by omega, rfl, HSA.out, Taken.new ks⟩
      case round =>
        obtain ⟨k, st, hk, rfl, HK, HT⟩ := hrel
        have k0 : (0 : Int) ≤ (k : Int) := by omega
        by_cases h1 : k < ks.length
        · have k1 : (k : Int) < (ks.length : Int) := by omega
          by_cases h2 : k < 60
          · have k2 : (k : Int) < 60 := by omega
            obtain ⟨ad, who', nn, what, p', letter', seen, ya, yc, rfl, d0, d1, d2, d3, d4, d5, hC⟩ := HK.out.roundL HT.out.ok HR1.out HG1.out h1
            have HC := Lib.hid hC
            have HT2 := Lib.hid (HT.out.next h1)
            clear hC HK HT
            go_wp2_with fail
            refine HC.out.mono ?_
            rintro e w9 ⟨⟨is, ke, rfl⟩, hD⟩
            have HDX := Lib.hid hD
            clear hD HC
            go_wp2_with fail
            go_roundw
            case rel => exact ⟨k + 1, _, by omega, by go_num, HDX.out, HT2⟩
            case measure => simp [intOf]; omega
          · have k2 : ¬ (k : Int) < 60 := by omega
            have HF := Lib.hid (HT.out.more (m := 60) (by omega))
            go_wp2_with fail
            go_meet
            case rel => exact ⟨st, HK.out.swap, HF.out⟩
        · have k1 : ¬ (k : Int) < (ks.length : Int) := by omega
          have HF := Lib.hid (HT.out.more (m := 60) (by omega))
          go_wp2_with fail
          go_meet
          case rel => exact ⟨st, HK.out.swap, HF.out⟩
    case rest =>
      obtain ⟨sb, hsb, htb⟩ := hcut
      have HSB := Lib.hid hsb
      have HTB := Lib.hid htb
      clear hsb htb HSA
      go_upto_block 4 with (fail)
      go_cut [] (fun wx => Scene w B ba bb sa sb [] wx ∧ LDoc.Agree sa.ops sb.ops)
      case first =>
        go_wp2_with fail
        go_loopw [16] (fun i wr => LoopC w B ba bb sa sb ks ls i wr) (fun i _ => 60 - (intOf i).toNat)
        case atStart => exact ⟨0, by omega, by omega, rfl, HSB.out, fun i' hi j' hj h60 hc he => by omega⟩
        case round =>
          obtain ⟨k, hk, hkl, rfl, HK, HAG⟩ := hrel
          have k0 : (0 : Int) ≤ (k : Int) := by omega
          by_cases h1 : k < ks.length
          · have k1 : (k : Int) < (ks.length : Int) := by omega
            by_cases h2 : k < 60
            · have k2 : (k : Int) < 60 := by omega
              go_wp2_with fail
              go_loopw [17] (fun j wx => LoopD w B ba bb sa sb ks ls k j wx) (fun j _ => 60 - (intOf j).toNat)
              case atStart => exact ⟨0, by omega, by omega, rfl, HK.out, HAG.out⟩
              case round =>
                obtain ⟨n, hn, hnl, rfl, HKn, HAGn⟩ := hrel
                have n0 : (0 : Int) ≤ (n : Int) := by omega
                by_cases h3 : n < ls.length
                · have n1 : (n : Int) < (ls.length : Int) := by omega
                  by_cases h4 : n < 60
                  · have n2 : (n : Int) < 60 := by omega
                    obtain ⟨ak, rfl, _⟩ := HR1.out.op h1
                    obtain ⟨al, rfl, _⟩ := HR0.out.op h3
                    have HCK := Lib.hid (op_cells HR1.out h1)
                    have HCL := Lib.hid (op_cells HR0.out h3)
                    obtain ⟨sb2, hsb2⟩ : ∃ b : Bool, b = decide (ks[k].op = ls[n].op) := ⟨_, rfl⟩
                    have HSQ : Hid (sb2 = true → ks[k].op = ls[n].op) := fun h => by rw [hsb2] at h; exact of_decide_eq_true h
                    have HOP : Hid (∀ W, Below w.heap.size w W → Calls Try.prog 23 #[ks[k].op.val ks[k].at_ ks[k].cap, ls[n].op.val ls[n].at_ ls[n].cap] W (SamePost W sb2)) := fun W hW => by
                      have g1 := (HG1.out _ (List.getElem_mem h1)).below hW
                      have g2 := (HG0.out _ (List.getElem_mem h3)).below hW
                      have s1 := seen_small g1
                      have s2 := seen_small g2
                      rw [hsb2]
                      exact SameOp.any W _ _ _ _ _ _ g1.1 g2.1 s1 s2
                    clear hsb2
                    have HNX := Lib.hid (fun hd => HAGn.out.next h1 h3 hd)
                    have HBN := Lib.hid HKn.out.below
                    have HQE := Lib.hid (fun W => SameDots.eq_one W ks[k].op.dot.who ls[n].op.dot.who ks[k].op.dot.n ls[n].op.dot.n)
                    generalize ks[k] = x at *
                    generalize ls[n] = y at *
                    obtain ⟨⟨⟨xw, xn⟩, xa, xp, xl, xs⟩, xA, xc⟩ := x
                    obtain ⟨⟨⟨yw, yn⟩, ya, yp, yl, ys⟩, yA, yc⟩ := y
                    unfold LOp.val at HOP
                    simp only at HCK HCL HOP HNX HQE HSQ
                    obtain ⟨c0, c1, c2, c3, c4, c5⟩ := HCK.out _ HBN.out
                    obtain ⟨d0, d1, d2, d3, d4, d5⟩ := HCL.out _ HBN.out
                    go_wp2_with fail
                    go_region_held3 (fun w' => (w'.cell? (ak.add (k * 6)) = some (.int .i64 xw) ∧ w'.cell? ⟨(ak.add (k * 6)).block, (ak.add (k * 6)).off + 1, none⟩ = some (.int .i64 xn) ∧ w'.cell? ⟨(ak.add (k * 6)).block, (ak.add (k * 6)).off + 2, none⟩ = some (.int .i64 xa) ∧ w'.cell? ⟨(ak.add (k * 6)).block, (ak.add (k * 6)).off + 3, none⟩ = some (.string xp) ∧ w'.cell? ⟨(ak.add (k * 6)).block, (ak.add (k * 6)).off + 4, none⟩ = some (.int .i64 xl) ∧ w'.cell? ⟨(ak.add (k * 6)).block, (ak.add (k * 6)).off + 5, none⟩ = some (.slice xA xs.length xc)) ∧ (w'.cell? (al.add (n * 6)) = some (.int .i64 yw) ∧ w'.cell? ⟨(al.add (n * 6)).block, (al.add (n * 6)).off + 1, none⟩ = some (.int .i64 yn) ∧ w'.cell? ⟨(al.add (n * 6)).block, (al.add (n * 6)).off + 2, none⟩ = some (.int .i64 ya) ∧ w'.cell? ⟨(al.add (n * 6)).block, (al.add (n * 6)).off + 3, none⟩ = some (.string yp) ∧ w'.cell? ⟨(al.add (n * 6)).block, (al.add (n * 6)).off + 4, none⟩ = some (.int .i64 yl) ∧ w'.cell? ⟨(al.add (n * 6)).block, (al.add (n * 6)).off + 5, none⟩ = some (.slice yA ys.length yc)))
                      (first | go_keep | (refine ⟨⟨?_, ?_, ?_, ?_, ?_, ?_⟩, ?_, ?_, ?_, ?_, ?_, ?_⟩ <;> assumption))
                      ((go_at_call 23; refine (HOP.out _ (by first | exact HBN.out | exact below_drewN HBN.out _ | exact HBN.out.drew)).mono ?_; rintro e w9 ⟨rfl, hb9⟩
                        have HS9 := Lib.hid (HKn.out.step (by first | exact hb9 | exact below_of_drewN (n := 1) hb9))
                        have HB9 := Lib.hid HS9.out.below
                        obtain ⟨e0, e1, e2, e3, e4, e5⟩ := HCK.out _ HB9.out
                        obtain ⟨f0, f1, f2, f3, f4, f5⟩ := HCL.out _ HB9.out
                        clear hb9 c0 c1 c2 c3 c4 c5 d0 d1 d2 d3 d4 d5))
                    by_cases hd : xw = yw ∧ xn = yn
                    · have hq : ∀ W, (Op.equalIn 10000 47 (.agg #[.int .i64 xw, .int .i64 xn]) (.agg #[.int .i64 yw, .int .i64 yn])).run Try.prog W = .ok true W := fun W => by rw [HQE.out W]; simp [hd.1, hd.2]
                      cases sb2 with
                      | true =>
                        have HNY := Lib.hid (HNX.out (fun _ => HSQ.out rfl))
                        clear hd HNX
                        go_wp2_with fail
                        go_quiet (fail)
                        go_wp2_with fail
                        go_roundw
                        case rel => exact ⟨n + 1, by omega, by omega, by go_num, HS9.out.drewN _, HNY⟩
                        case measure => simp [intOf]; omega
                      | false =>
                        clear hd HNX
                        go_wp2_with fail
                        go_quiet (fail)
                        go_wp2_with fail
                        go_ret
                        exact ⟨rfl, below_drewN HB9.out _⟩
                    · have hq : ∀ W, (Op.equalIn 10000 47 (.agg #[.int .i64 xw, .int .i64 xn]) (.agg #[.int .i64 yw, .int .i64 yn])).run Try.prog W = .ok false W := fun W => by
                        rw [HQE.out W]
                        by_cases h5 : xw = yw
                        · have h6 : xn ≠ yn := fun h => hd ⟨h5, h⟩
                          simp [h6]
                        · simp [h5]
                      have HNY := Lib.hid (HNX.out (fun h => absurd (by simpa using h) hd))
                      clear hd HNX
                      go_wp2_with fail
                      go_quiet (fail)
                      go_wp2_with fail
                      go_roundw
                      case rel => exact ⟨n + 1, by omega, by omega, by go_num, HS9.out.drewN _, HNY⟩
                      case measure => simp [intOf]; omega
                  · have n2 : ¬ (n : Int) < 60 := by omega
                    have HF := Lib.hid (HAGn.out.row (.inl (by omega)))
                    go_wp2_with fail
                    go_roundw
                    case rel => exact ⟨k + 1, by omega, by omega, by go_num, HKn, HF⟩
                    case measure => simp [intOf]; omega
                · have n1 : ¬ (n : Int) < (ls.length : Int) := by omega
                  have HF := Lib.hid (HAGn.out.row (.inr (by omega)))
                  go_wp2_with fail
                  go_roundw
                  case rel => exact ⟨k + 1, by omega, by omega, by go_num, HKn, HF⟩
                  case measure => simp [intOf]; omega
            · have k2 : ¬ (k : Int) < 60 := by omega
              have HF := Lib.hid (HAG.out.all (n := 0) (.inl (by omega)) HTA.out HTB.out)
              go_wp2_with fail
              go_meet
              case rel => exact ⟨HK.out, HF.out⟩
          · have k1 : ¬ (k : Int) < (ks.length : Int) := by omega
            have HF := Lib.hid (HAG.out.all (n := 0) (.inr (by omega)) HTA.out HTB.out)
            go_wp2_with fail
            go_meet
            case rel => exact ⟨HK.out, HF.out⟩
      case rest =>
        obtain ⟨hsc, hag⟩ := hcut
        have HSC := Lib.hid hsc
        have HAG := Lib.hid hag
        clear hsc hag HSB
        have HBO := Lib.hid (HSC.out.both HTA.out.ok HTB.out.ok)
        by_cases he1 : LDoc.gaveE sa sb = 0
        · by_cases he2 : LDoc.gaveE (LDoc.gave sa sb) sa = 0
          · obtain ⟨a1, a2, a3, a4⟩ := LDoc.both_all he1 he2
            rw [a1, a2, a3, a4] at HBO
            obtain ⟨p1, p2, p3⟩ := LDoc.sync_plain HTA.out.ok HTB.out.ok HTA.out.says HTB.out.says HTA.out.num HTB.out.num HAG.out he1 he2
            have OKB : Hid (LDoc.gave sa sb).Ok := LDoc.doR_ok _ HTB.out.ok
            have OKA : Hid (LDoc.gave (LDoc.gave sa sb) sa).Ok := LDoc.doR_ok _ HTA.out.ok
            clear he1 he2 a1 a2 a3 a4 HAG HTA HTB HSC
            generalize LDoc.gaveN (LDoc.gave sa sb) sa = nm at *
            generalize LDoc.gave (LDoc.gave sa sb) sa = a at *
            generalize LDoc.gaveN sa sb = nn at *
            generalize LDoc.gave sa sb = b at *
            have P1 := Lib.hid p1
            have P2 := Lib.hid p2
            have P3 := Lib.hid p3
            obtain ⟨l1, l2⟩ := LDoc.same_lacks OKA.out OKB.out p3
            have gb : LDoc.gave a b = b := by unfold LDoc.gave; rw [l1]; rfl
            have geb : LDoc.gaveE a b = 0 := by unfold LDoc.gaveE; rw [l1]; rfl
            have gnb : LDoc.gaveN a b = 0 := by unfold LDoc.gaveN; rw [l1]; rfl
            have ga : LDoc.gave b a = a := by unfold LDoc.gave; rw [l2]; rfl
            have gea : LDoc.gaveE b a = 0 := by unfold LDoc.gaveE; rw [l2]; rfl
            have gna : LDoc.gaveN b a = 0 := by unfold LDoc.gaveN; rw [l2]; rfl
            obtain ⟨q1, q2, q3, q4⟩ := LDoc.both_all geb (by rw [gb]; exact gea)
            rw [gb, ga] at q2
            rw [gnb] at q3
            rw [gb, gna] at q4
            have HQ := Lib.hid (And.intro q1 (And.intro q2 (And.intro q3 q4)))
            have GB := Lib.hid gb
            have L1 := Lib.hid l1
            have hk8 : a.known.length ≤ 8 := by have := (vec_ok OKA.out.known).1; omega
            have hlb := OKA.out.book.few
            have hlm := OKA.out.marks.few
            have HLK : Hid (lackE a.ops b.known = 0) := by
              have hfew := OKA.out.few
              show _ = _
              unfold lackE
              rw [if_neg (by have := OKB.out.known; omega), if_neg (by omega)]
              exact opsFault_zero (fun o ho => (OKA.out.ops o ho).1)
            clear p1 p2 p3 l1 l2 gb geb gnb ga gea gna q1 q2 q3 q4
            go_wp2_with fail
            refine HBO.out.mono ?_
            rintro e w9 ⟨rfl, hs⟩
            rw [HE0]
            have HC := Lib.hid (hs.knownL OKA.out)
            clear hs HBO
            go_wp2_with fail
            refine HC.out.mono ?_
            rintro e w10 ⟨V1, c1, rfl, hO1, hb, hs⟩
            have HO1 := Lib.hid hO1
            have HC : Hid (Calls _ _ _ _ _) := hs.knownR OKB.out
            rw [← P3.out] at HC
            clear hs hb hO1
            go_wp2_with fail
            refine HC.out.mono ?_
            rintro e w11 ⟨V2, c2, rfl, hO2, hb, hs⟩
            have HS11 := Lib.hid hs
            have HC := Lib.hid (ints_same w11 V1 V2 c1 c2 a.known (HO1.out.below hb).reads hO2.reads (by omega))
            clear hs hb hO2 HO1
            go_wp2_with fail
            refine HC.out.mono ?_
            rintro e w12 ⟨rfl, hb⟩
            have HS12 := Lib.hid (HS11.out.step hb)
            have HC := Lib.hid (HS12.out.bookL OKA.out)
            clear hb HS11
            go_wp2_with fail
            refine HC.out.mono ?_
            rintro e w13 ⟨V1, c1, rfl, hO1, hb, hs⟩
            have HO1 := Lib.hid hO1
            have HC : Hid (Calls _ _ _ _ _) := hs.bookR OKB.out
            rw [← P1.out] at HC
            clear hs hb hO1 HS12
            go_wp2_with fail
            refine HC.out.mono ?_
            rintro e w14 ⟨V2, c2, rfl, hO2, hb, hs⟩
            have HS14 := Lib.hid hs
            have HC := Lib.hid (leafs_same w14 V1 V2 c1 c2 a.book (HO1.out.below hb).reads hO2.reads (by omega))
            clear hs hb hO2 HO1
            go_wp2_with fail
            refine HC.out.mono ?_
            rintro e w15 ⟨rfl, hb⟩
            have HS15 := Lib.hid (HS14.out.step hb)
            have HC := Lib.hid (HS15.out.marksL OKA.out)
            clear hb HS14
            go_wp2_with fail
            refine HC.out.mono ?_
            rintro e w16 ⟨V1, c1, rfl, hO1, hb, hs⟩
            have HO1 := Lib.hid hO1
            have HC : Hid (Calls _ _ _ _ _) := hs.marksR OKB.out
            rw [← P2.out] at HC
            clear hs hb hO1 HS15
            go_wp2_with fail
            refine HC.out.mono ?_
            rintro e w17 ⟨V2, c2, rfl, hO2, hb, hs⟩
            have HS17 := Lib.hid hs
            have HC := Lib.hid (marks_same w17 V1 V2 c1 c2 a.marks (HO1.out.below hb).reads hO2.reads (by omega))
            clear hs hb hO2 HO1
            go_wp2_with fail
            refine HC.out.mono ?_
            rintro e w18 ⟨rfl, hb⟩
            have HS18 := Lib.hid (HS17.out.step hb)
            have HBO := Lib.hid (HS18.out.both OKA.out OKB.out)
            clear hb HS17
            rw [HQ.out.1, HQ.out.2.1, HQ.out.2.2.1, HQ.out.2.2.2, GB.out] at HBO
            go_wp2_with fail
            refine HBO.out.mono ?_
            rintro e w19 ⟨rfl, hs⟩
            rw [HE0]
            have HC := Lib.hid (hs.opsL OKA.out)
            clear hs HBO HS18
            go_wp2_with fail
            refine HC.out.mono ?_
            rintro e w20 ⟨V5, c5, z5, rfl, hz5, hzl, hb, hs⟩
            have HZ5 := Lib.hid hz5
            have HC := Lib.hid (hs.knownR OKB.out)
            clear hs hb hz5
            go_wp2_with fail
            refine HC.out.mono ?_
            rintro e w21 ⟨K6, ck6, rfl, hO, hb, hs⟩
            obtain ⟨e1, e2⟩ := hs.each_ (V := V5) (zs := z5) (by simp)
            have HC := Lib.hid (lacks_any w21 V5 c5 z5 K6 ck6 b.known (hs.rows_ (by simp)) e1 e2 (by omega) hO.reads (by have := (vec_ok OKB.out.known).1; omega))
            rw [HZ5.out, HLK.out, L1.out] at HC
            have HSF := Lib.hid hs.below
            clear hs hb hO e1 e2
            go_wp2_with fail
            refine HC.out.mono ?_
            rintro e w22 ⟨V7, c7, z7, rfl, hz7, hO7, hb⟩
            rw [HE0]
            have hz70 : z7.length = 0 := by have := congrArg List.length hz7; simpa [giveO] using this
            have HBF := Lib.hid (HSF.out.trans (hb.mono HSF.out.size))
            rw [hz70]
            clear hb hO7 hz7 hz70 HC
            go_wp2_with fail
            go_ret
            exact ⟨rfl, HBF.out⟩
          · obtain ⟨a1, a2, a3, a4⟩ := LDoc.both_two he1 he2
            rw [a1, a2, a3, a4] at HBO
            have HV := Lib.hid (errV_ne he2)
            clear he1 he2 a1 a2 a3 a4
            generalize LDoc.gaveE (LDoc.gave sa sb) sa = ke at *
            go_wp2_with fail
            refine HBO.out.mono ?_
            rintro e w9 ⟨rfl, hs⟩
            rw [HV.out]
            have HBF := Lib.hid hs.below
            clear hs HBO
            go_wp2_with fail
            go_ret
            exact ⟨rfl, HBF.out⟩
        · obtain ⟨a1, a2, a3, a4⟩ := LDoc.both_one he1
          rw [a1, a2, a3, a4] at HBO
          have HV := Lib.hid (errV_ne he1)
          clear he1 a1 a2 a3 a4
          generalize LDoc.gaveE sa sb = ke at *
          go_wp2_with fail
          refine HBO.out.mono ?_
          rintro e w9 ⟨rfl, hs⟩
          rw [HV.out]
          have HBF := Lib.hid hs.below
          clear hs HBO
          go_wp2_with fail
          go_ret
          exact ⟨rfl, HBF.out⟩
set_option maxRecDepth 100000 in
theorem lifted (os : Os) (started : os.Started) (H : Type) (enc : TypeId × Value → H) :
    ReturnsInHanded {} Try.checked os 7 .any (Rows.syncMeetsSpec.pre6 enc Try.prog Try.f7 Rows.syncMeetsRow.domain false) (Rows.syncMeetsSpec.post enc Try.prog Try.f7 false true false false) := by
  refine returnsInHanded_of_change (C := Try.checked) Try.own started (by kernel_rfl) Try.func7
    (ChangeSpec.witness6 (enc := enc) (C := Try.checked) false ⟨#[], #[.slice none 0 0, .slice none 0 0], []⟩ 8 (by kernel_rfl) (by kernel_rfl) (by kernel_rfl) (by kernel_rfl)) ?_
  intro W base args ds gs before hval0 hW _ _
  have hval : ∀ (j : Nat) t v, Try.f7.params[j]? = some t → args[j]? = some v → Value.okWide Try.prog W .any base t v := hval0
  obtain ⟨p, q, hA0, _⟩ := id hW
  have hA : DataW.TrodAll enc Try.prog W 0 (fun _ => true) true Try.f7.params.toList args.toList ds p := hA0
  rw [Try.params7] at hA hval
  obtain ⟨v0, v1, d0, d1, p0, p1, rfl, rfl, rfl, h0, h1⟩ := trodAll_two hA
  obtain ⟨A0, c0, l0, rfl, r0, g0, lc0, cm0⟩ := arg_ops (hval 0 51 v0 rfl rfl) h0
  obtain ⟨A1, c1, l1, rfl, r1, g1, lc1, cm1⟩ := arg_ops (hval 1 51 v1 rfl rfl) h1
  refine (walk W A0 c0 l0 A1 c1 l1 r0 g0 r1 g1 (by unfold maxLen at cm0; omega) (by unfold maxLen at cm1; omega)).mono fun e W' ⟨he, hb⟩ => ⟨_, he, ?_⟩
  exact law_post Try.laidOut (tb := 4) (by kernel_rfl) Try.underlying4 (by rw [Try.params7]; simp only [List.mem_cons, List.not_mem_nil, or_false]; rintro t (rfl | rfl) <;> exact ⟨by kernel_rfl, of_decide_eq_true (by kernel_rfl)⟩) rfl rfl hW hb

theorem holds : Rows.SyncMeetsSaid :=
  OpenClaim.holds_of_wide 7 Try.f7 rfl rfl rfl rfl rfl rfl rfl ⟨rfl, rfl, rfl, rfl, rfl⟩ rfl rfl rfl rfl rfl (by kernel_rfl) Try.func7 (by kernel_rfl)
    (of_decide_eq_true (by kernel_rfl)) (by unfold Func.isWrapper; first | (rw [if_pos (by decide +kernel)]; kernel_rfl) | (rw [if_neg (by decide +kernel)]; exact ⟨rfl, rfl⟩))
    (fun os started H enc _ => lifted os started H enc)
#print axioms holds
end lawSyncMeets
end Go.Proofs.Ytgjhkblnohcppaa

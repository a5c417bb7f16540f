/- 4 texts in one: each says ahead of itself what is proved, and its conditions. -/
import Derived.Below
import Derived.Carry
import Derived.Deep.CutBlock
import Derived.ProofKit
import Derived.Test.YtobdollnkndmeaaRows
import Derived.WalkKit
import Derived.Test.YtobdollnkndmeaaCursorLaw
import Derived.Test.YtobdollnkndmeaaDocGo
import Derived.Test.YtobdollnkndmeaaDocHelp
import Derived.Test.YtobdollnkndmeaaEditDo
import Derived.Test.YtobdollnkndmeaaEditInsert
import Derived.Test.YtobdollnkndmeaaOpenLink
/- From a walk to a given statement: one theorem that serves every law of the seat. Conditions: none of our own. -/
namespace Go.Proofs.Ytobdollnkndmeaa
open Go.RowKit Go.WideShapes Go.ChangeShapes Go.ChangeAt
set_option linter.unusedVariables false

section
variable {H : Type} {enc : TypeId × Value → H} {P : Program}

theorem post_of_below {f : Func} {s : ChangeSpec} {apart fresh handsOn again : Bool} {W W' : World} {args : Array Value} {v : Value} {ds gs : List (DataW H)} {before pa pv : List MemPlace}
    (hW : DataW.Whole enc P f.params.toList s.vars apart W args.toList ds gs before)
    (hres : ∀ (b : Nat) (sp : Nat → Bool) (hd : Bool), DataW.TrodAll enc P W' b sp hd f.resultTypes.toList (v.resultList f.resultTypes.size) (s.fn H (ds ++ gs)).results [])
    (hargs : ∀ sp : Nat → Bool, (∀ p ∈ before, sp p.block = true) → DataW.TrodAll enc P W' 0 sp true f.params.toList args.toList (s.fn H (ds ++ gs)).args pa)
    (hvars : ∀ sp : Nat → Bool, (∀ p ∈ before, sp p.block = true) → DataW.TrodVars enc P W' sp s.vars (s.fn H (ds ++ gs)).vars pv)
    (hps : before = pa ++ pv) (hb : Below W.heap.size W W')
    (hok : ∀ (j : Nat) (t : TypeId) (r : Value), f.resultTypes[j]? = some t → (v.resultList f.resultTypes.size)[j]? = some r → Value.okWide P W' .any 0 t r) :
    s.post enc P f apart fresh handsOn again W args v W' := by
  have hlt : ∀ p ∈ before, p.block < W.heap.size := fun p hp => hW.lt p hp
  have hold : ∀ p ∈ before, (fun b => decide (b < W.heap.size)) p.block = true := fun p hp => by simpa using hlt p hp
  refine ⟨ds, gs, before, [], pa, pv, hW, hres _ _ _, hargs _ hold, hvars _ hold, World.keptBut_mono (fun p hp => ⟨hp, ?_⟩) (hb.frame (· ∈ before)), fun _ => ?_⟩
  · rw [hps, List.mem_append] at hp
    exact Or.inr hp
  · obtain ⟨_, _, _, _, _, hz, hn⟩ := hW
    refine ⟨hok, _, _, ([] ++ pa) ++ pv, ⟨[] ++ pa, pv, trodAll_append (hargs _ (fun _ _ => rfl)) (hres _ _ _), hvars _ (fun _ _ => rfl), rfl, ?_, ?_⟩, ?_⟩
    · intro b off hp
      have hin : MemPlace.cell b off ∈ before := by rw [hps]; simpa using hp
      rw [hb.frozen (hlt _ hin)]
      exact hz b off hin
    · intro ha
      have := hn ha
      rw [hps] at this
      simpa using this
    · intro p hp _
      rw [hps]
      simpa using hp

theorem trodAll_below (hl : laidOutB P = true) {W W' : World} (hb : Below W.heap.size W W') {sp : Nat → Bool} :
    ∀ (ts : List TypeId) (vs : List Value) (ds : List (DataW H)) (ps : List MemPlace), (∀ t ∈ ts, P.readableRec t = true ∧ t < P.types.size) → (∀ p ∈ ps, p.block < W.heap.size) → (∀ p ∈ ps, sp p.block = true) →
      DataW.TrodAll enc P W 0 (fun _ => true) true ts vs ds ps → DataW.TrodAll enc P W' 0 sp true ts vs ds ps := by
  intro ts
  induction ts with
  | nil => intro vs ds ps _ _ _ h; cases vs <;> cases ds <;> simp_all [DataW.TrodAll]
  | cons t ts ih =>
    intro vs ds ps ht hlt hs h
    cases vs with
    | nil => simp [DataW.TrodAll] at h
    | cons v vs =>
      cases ds with
      | nil => simp [DataW.TrodAll] at h
      | cons d ds =>
        obtain ⟨p, q, h1, h2, rfl⟩ := h
        exact ⟨p, q, WideElems.Trod_stays hl (ht t (by simp)).1 (ht t (by simp)).2 h1 (fun x hx => hb.same (hlt x (by simp [hx]))) (fun x hx => hs x (by simp [hx])),
          ih vs ds q (fun t' h' => ht t' (by simp [h'])) (fun x hx => hlt x (by simp [hx])) (fun x hx => hs x (by simp [hx])) h2, rfl⟩

/-- A law: it answered true, and nothing that was there has turned. -/
theorem law_post (hl : laidOutB P = true) {f : Func} {s : ChangeSpec} {apart fresh handsOn again : Bool} {tb : TypeId} {W W' : World} {args : Array Value} {ds gs : List (DataW H)} {before : List MemPlace}
    (hr : f.resultTypes = #[tb]) (htb : P.underlying tb = some .bool) (hp : ∀ t ∈ f.params.toList, P.readableRec t = true ∧ t < P.types.size) (hv : s.vars = [])
    (hfn : s.fn H ds = { results := [.lit (.bool true)], args := ds })
    (hW : DataW.Whole enc P f.params.toList s.vars apart W args.toList ds gs before) (hb : Below W.heap.size W W') :
    s.post enc P f apart fresh handsOn again W args (.bool true) W' := by
  have hW' := hW
  obtain ⟨p, q, hA, hV, hpq, hfz, hnd⟩ := hW
  have hlt : ∀ x ∈ before, x.block < W.heap.size := fun x hx => hW'.lt x hx
  rw [hv] at hV
  obtain ⟨hgs, hq⟩ := trodVars_none hV
  subst hgs; subst hq
  simp only [List.append_nil] at hpq
  subst hpq
  refine post_of_below (pa := before) (pv := []) hW' ?_ ?_ ?_ (by simp) hb ?_
  · intro b sp hd
    rw [List.append_nil, hfn, hr]
    exact trodAll_mk1 (shut_bool htb _)
  · intro sp hs
    rw [List.append_nil, hfn]
    exact trodAll_below hl hb _ _ _ _ hp hlt hs hA
  · intro sp hs
    rw [List.append_nil, hfn, hv]
    exact rfl
  · exact ok_one hr rfl (okWide_bool_mk htb _)
end

theorem Try.own : ownKnob Try.prog.godebug = none := by kernel_rfl
theorem Try.laidOut : laidOutB Try.prog = true := by kernel_rfl
end Go.Proofs.Ytobdollnkndmeaa
/- A row of ops is applied to a document, whatever comes of it: the round of such a loop. Plain, and by the contract of Apply. Conditions: the ops can be read. -/
namespace Go.Proofs.Ytobdollnkndmeaa
open Go.RowKit
set_option linter.unusedVariables false
/-- A document of the call's own to which at most n ops were applied. -/
def DocAt (w : World) (B b n : Nat) (wr : World) : Prop := ∃ st S D, DocIs wr B S b st D ∧ st.Ok ∧ Says st.ops st ∧ Numbered st.ops ∧ st.ops.length ≤ n ∧ Below w.heap.size w wr
def DocLoop (w : World) (B b : Nat) (i : Value) (wr : World) : Prop := ∃ k : Nat, k ≤ 60 ∧ i = .int .i64 k ∧ Hid (DocAt w B b k wr)
theorem DocAt.new {w w' : World} {B b : Nat} {S : List Nat} {D : DLay} (h : DocIs w' B S b LDoc.new D) (hb : Below w.heap.size w w') (n : Nat) : DocAt w B b n w' := ⟨_, S, D, h, LDoc.new_ok, Says.new, Numbered.nil, Nat.zero_le _, hb⟩
theorem DocAt.more {w wr : World} {B b n m : Nat} (h : DocAt w B b n wr) (hm : n ≤ m) : DocAt w B b m wr := by
  obtain ⟨st, S, D, h1, h2, h3, h4, h5, h6⟩ := h
  exact ⟨st, S, D, h1, h2, h3, h4, by omega, h6⟩
theorem DocAt.round {w wr : World} {B b n : Nat} (h : DocAt w B b n wr) (hB : w.heap.size ≤ B) {A : Option Addr} {ys : List OpAt} (hr : Reads w w.heap.size 6 A ys.length (ocells ys)) (hg : ∀ y ∈ ys, y.Good w) {k : Nat} (hk : k < ys.length) :
    ∃ ad who nn what p letter seen ya yc, A = some ad ∧ wr.cell? (ad.add (k * 6)) = some (.int .i64 who) ∧ wr.cell? ⟨(ad.add (k * 6)).block, (ad.add (k * 6)).off + 1, none⟩ = some (.int .i64 nn) ∧ wr.cell? ⟨(ad.add (k * 6)).block, (ad.add (k * 6)).off + 2, none⟩ = some (.int .i64 what) ∧
      wr.cell? ⟨(ad.add (k * 6)).block, (ad.add (k * 6)).off + 3, none⟩ = some (.string p) ∧ wr.cell? ⟨(ad.add (k * 6)).block, (ad.add (k * 6)).off + 4, none⟩ = some (.int .i64 letter) ∧ wr.cell? ⟨(ad.add (k * 6)).block, (ad.add (k * 6)).off + 5, none⟩ = some (.slice ya seen yc) ∧
      Calls Try.prog 12 #[.pointer (some ⟨b, 0, none⟩), .agg #[.int .i64 who, .int .i64 nn, .int .i64 what, .string p, .int .i64 letter, .slice ya seen yc]] wr (fun e w' => (∃ (is : Bool) (ke : Int), e = .returned (.tuple #[.bool is, errV ke])) ∧ DocAt w B b (n + 1) w') := by
  obtain ⟨st, S, D, hd, hok, hs, hn, hl, hbw⟩ := h
  obtain ⟨ad, rfl, hab, c0', c1', c2', c3', c4', c5'⟩ := ((hr.below hbw).more hbw.size).op hk
  have hgood := (hg _ (List.getElem_mem hk)).below hbw
  have hps := hgood.2.1
  have hfar : 0 < ys[k].op.seen.length → ∀ g ∈ ob ys[k].at_, g ∉ S := (hg _ (List.getElem_mem hk)).1.far (fun g hg => by have := (hd.own g hg).1; omega)
  have HA := apply_doc wr _ _ _ _ _ hd hok ys[k].op ys[k].at_ ys[k].cap (by unfold maxLen at hps; omega) hgood.1 hfar
  refine ⟨ad, _, _, _, _, _, _, _, _, rfl, c0', c1', c2', c3', c4', c5', HA.mono ?_⟩
  rintro e w' ⟨rfl, S', D', h1, h2, h3⟩
  refine ⟨⟨_, _, rfl⟩, _, S', D', h1, LDoc.apply_ok hok _, LDoc.apply_says hok hs _, LDoc.apply_numbered hok hs hn _, ?_, hbw.trans (h2.below hbw.size (fun g hg => by have := (hd.own g hg).1; omega))⟩
  rcases LDoc.apply_three (d := st) ys[k].op with ⟨_, _, q⟩ | ⟨_, _, q⟩ | ⟨_, _, q⟩
  · rw [q]; simp; omega
  · rw [q]; omega
  · rw [q]; omega
/-- What came of the ops is far from older rows: they read as before. -/
theorem DocAt.below {w wr : World} {B b n : Nat} (h : DocAt w B b n wr) : Below w.heap.size w wr := by
  obtain ⟨st, S, D, h1, h2, h3, h4, h5, h6⟩ := h
  exact h6
end Go.Proofs.Ytobdollnkndmeaa
/- Five and six arguments taken apart. Plain lemmas. Conditions: none. -/
namespace Go.Proofs.Ytobdollnkndmeaa
open Go.WideShapes Go.ChangeShapes
section
variable {H : Type} {enc : TypeId × Value → H} {P : Program} {w : World} {base : Nat} {spare : Nat → Bool} {held : Bool}
theorem trodAll_five {t t' t'' t3 t4 : TypeId} {args : Array Value} {ds : List (DataW H)} {ps : List MemPlace} (h : DataW.TrodAll enc P w base spare held [t, t', t'', t3, t4] args.toList ds ps) :
    ∃ v v' v'' v3 v4 d d' d'' d3 d4 p p' p'' p3 p4, args = #[v, v', v'', v3, v4] ∧ ds = [d, d', d'', d3, d4] ∧ ps = p ++ p' ++ p'' ++ p3 ++ p4 ∧ DataW.Trod enc P w base spare held t v d p ∧ DataW.Trod enc P w base spare held t' v' d' p' ∧
      DataW.Trod enc P w base spare held t'' v'' d'' p'' ∧ DataW.Trod enc P w base spare held t3 v3 d3 p3 ∧ DataW.Trod enc P w base spare held t4 v4 d4 p4 := by
  obtain ⟨v, vs, d, ds', p, q, hargs, rfl, rfl, hd, hrest⟩ := trodAll_cons h
  obtain ⟨v', vs', d', ds'', p', q', rfl, rfl, rfl, hd', hrest'⟩ := trodAll_cons hrest
  obtain ⟨v'', vs'', d'', ds''', p'', q'', rfl, rfl, rfl, hd'', hrest''⟩ := trodAll_cons hrest'
  obtain ⟨v3, vs3, d3, ds4, p3, q3, rfl, rfl, rfl, hd3, hrest3⟩ := trodAll_cons hrest''
  obtain ⟨v4, vs4, d4, ds5, p4, q4, rfl, rfl, rfl, hd4, hrest4⟩ := trodAll_cons hrest3
  obtain ⟨rfl, rfl, rfl⟩ := trodAll_nil hrest4
  exact ⟨v, v', v'', v3, v4, d, d', d'', d3, d4, p, p', p'', p3, p4, by cases args; simp_all, rfl, by simp, hd, hd', hd'', hd3, hd4⟩
theorem trodAll_six {t t' t'' t3 t4 t5 : TypeId} {args : Array Value} {ds : List (DataW H)} {ps : List MemPlace} (h : DataW.TrodAll enc P w base spare held [t, t', t'', t3, t4, t5] args.toList ds ps) :
    ∃ v v' v'' v3 v4 v5 d d' d'' d3 d4 d5 p p' p'' p3 p4 p5, args = #[v, v', v'', v3, v4, v5] ∧ ds = [d, d', d'', d3, d4, d5] ∧ ps = p ++ p' ++ p'' ++ p3 ++ p4 ++ p5 ∧ DataW.Trod enc P w base spare held t v d p ∧ DataW.Trod enc P w base spare held t' v' d' p' ∧
      DataW.Trod enc P w base spare held t'' v'' d'' p'' ∧ DataW.Trod enc P w base spare held t3 v3 d3 p3 ∧ DataW.Trod enc P w base spare held t4 v4 d4 p4 ∧ DataW.Trod enc P w base spare held t5 v5 d5 p5 := by
  obtain ⟨v, vs, d, ds', p, q, hargs, rfl, rfl, hd, hrest⟩ := trodAll_cons h
  obtain ⟨v', vs', d', ds'', p', q', rfl, rfl, rfl, hd', hrest'⟩ := trodAll_cons hrest
  obtain ⟨v'', vs'', d'', ds''', p'', q'', rfl, rfl, rfl, hd'', hrest''⟩ := trodAll_cons hrest'
  obtain ⟨v3, vs3, d3, ds4, p3, q3, rfl, rfl, rfl, hd3, hrest3⟩ := trodAll_cons hrest''
  obtain ⟨v4, vs4, d4, ds5, p4, q4, rfl, rfl, rfl, hd4, hrest4⟩ := trodAll_cons hrest3
  obtain ⟨v5, vs5, d5, ds6, p5, q5, rfl, rfl, rfl, hd5, hrest5⟩ := trodAll_cons hrest4
  obtain ⟨rfl, rfl, rfl⟩ := trodAll_nil hrest5
  exact ⟨v, v', v'', v3, v4, v5, d, d', d'', d3, d4, d5, p, p', p'', p3, p4, p5, by cases args; simp_all, rfl, by simp, hd, hd', hd'', hd3, hd4, hd5⟩
end
end Go.Proofs.Ytobdollnkndmeaa
/- leaflaw2.CursorStays, proved: a cursor resolves to where it was anchored; what is written ahead of it moves it by just so many; what is written behind it does not. Conditions: none of our own. -/
namespace Go.Proofs.Ytobdollnkndmeaa
open Go.RowKit Go.WideShapes Go.ChangeShapes Go.ChangeAt
set_option linter.unusedVariables false
theorem sized_ok {l : List LLeaf} (h : BookOk l) : Sized l := fun x hx => by have := place_small (h.leafs x hx).place; omega
/-- Ops that the call itself has laid lie apart from a document. -/
theorem ops_apart {w1 w2 : World} {B b : Nat} {S : List Nat} {st : LDoc} {D : DLay} (h : DocIs w1 B S b st D) {V : Option Addr} {c : Nat} {ys : List OpAt} (ho : OwnOps w2 w1.heap.size V c ys) (hp : ∀ o ∈ ys.map OpAt.op, o.place.size ≤ 12) :
    (0 < ys.length → ∀ g ∈ ob V, g ∉ S) ∧ ∀ y ∈ ys, OpFar w2 S y := by
  refine ⟨fun _ g hg hm => ?_, fun y hy => ⟨(ho.seen y hy).reads, ?_, fun _ g hg hm => ?_⟩⟩
  · have := (ho.row.lt g hg).1; have := (h.own g hm).2; omega
  · have := hp y.op (List.mem_map.2 ⟨y, hy, rfl⟩); omega
  · have := ((ho.seen y hy).lt g hg).1; have := (h.own g hm).2; omega
theorem reads_blk' {W : World} {g n size : Nat} {t : TypeId} {cs : Array Value} (h : Blk W g t cs) (hl : cs.toList.length = n * size) : Reads W W.heap.size size (some ⟨g, 0, none⟩) n cs.toList := by
  refine ⟨hl, fun _ => ⟨_, rfl, h.lt, fun j u hu => ?_⟩⟩
  have e1 : (⟨g, 0, none⟩ : Addr).add j = ⟨g, j, none⟩ := by
    unfold Addr.add
    by_cases hj : j = 0 <;> simp [hj]
  rw [e1, h.cell]
  simpa using hu
namespace lawCursorStays
def oneL : List LLeaf := [⟨⟨#[102, 98]⟩, 104, false⟩, ⟨⟨#[110, 98]⟩, 105, false⟩]
theorem one_anch : anchErr oneL 1 = 0 ∧ anchRes oneL 1 = ⟨#[110, 98]⟩ := by decide +kernel
theorem one_sized : Sized oneL := by intro x hx; simp [oneL] at hx; rcases hx with rfl | rfl <;> decide
/-- What the law says of a document that is right. -/
theorem plain {d : LDoc} (hk : d.Ok) {at_ : Int} (h : anchErr d.book at_ = 0) : 0 ≤ at_ ∧ at_ ≤ ((textOf d.book).size : Int) ∧ resErr d.book (anchRes d.book at_) = 0 ∧ resVal d.book (anchRes d.book at_) = at_ ∧ (anchRes d.book at_).size ≤ 12 := by
  have hz := bookErr_zero hk.book
  unfold anchErr at h
  rw [if_neg (by omega)] at h
  split at h
  · omega
  obtain ⟨a1, a2⟩ := anch_ok hk.book (at_ := at_) (by omega) (by omega)
  have hr : resErr d.book (anchRes d.book at_) = 0 := by unfold resErr; rw [if_neg (by omega)]; exact a1
  refine ⟨by omega, by omega, hr, by unfold resVal; rw [if_pos hr]; exact a2, ?_⟩
  unfold cpErr at a1
  split at a1
  · rename_i h0; omega
  · exact place_small a1
theorem plain2 {d : LDoc} (hk : d.Ok) {at_ who off : Int} {text : ByteArray} (h : anchErr d.book at_ = 0) (hi : d.insE who off text = 0) (hd : d.doE (d.insR who off text) = 0) :
    resErr (d.doR (d.insR who off text)).book (anchRes d.book at_) = 0 ∧ resVal (d.doR (d.insR who off text)).book (anchRes d.book at_) = if off ≤ at_ then at_ + text.size else at_ := by
  obtain ⟨p1, p2, p3, p4, p5⟩ := plain hk h
  obtain ⟨a, b, e1, e2, e3, e4, _⟩ := LDoc.ins_does hk hi hd
  have hk2 := LDoc.doR_ok (d.insR who off text) hk
  have hr : resErr (d.doR (d.insR who off text)).book (anchRes d.book at_) = 0 := by
    unfold resErr
    rw [if_neg (by have := bookErr_zero hk2.book; omega)]
    exact (anch_ok hk.book p1 p2).1
  refine ⟨hr, ?_⟩
  unfold resVal
  rw [if_pos hr]
  have hb2 := hk2.book
  rw [e3] at hb2 ⊢
  rw [anch_moves e1 hk.book hb2 p1 p2 e2, e4, toList_len]
set_option maxRecDepth 100000 in
set_option maxHeartbeats 8000000 in
theorem walk (w : World) (A0 : Option Addr) (c0 : Nat) (ys : List OpAt) (who at_ off : Int) (text : ByteArray) (h0 : Reads w w.heap.size 6 A0 ys.length (ocells ys)) (hg : ∀ y ∈ ys, y.Good w)
    (hn0 : ys.length ≤ 9223372036854775807) (hw0 : -9223372036854775808 ≤ who) (hw1 : who ≤ 9223372036854775807) (ha0 : -9223372036854775808 ≤ at_) (ha1 : at_ ≤ 9223372036854775807) (ho0 : -9223372036854775808 ≤ off) (ho1 : off ≤ 9223372036854775807) (ht : text.size ≤ 9223372036854775807) :
    Calls Try.prog 5 #[.slice A0 ys.length c0, .int .i64 who, .int .i64 at_, .int .i64 off, .string text] w (CheckPost w (.bool true)) := by
  have HR0 := Lib.hid h0
  have HG := Lib.hid hg
  have HE0 : errV 0 = .nilIface := rfl
  have HAN := Lib.hid (fun (W : World) A (h : Reads W W.heap.size 3 A oneL.length (lcells oneL)) => anchor_any W A 2 oneL h one_sized (by decide) (by decide) 1 (by decide))
  clear h0 hg
  go_enter Try.func5, Try.ntmps5
  go_wp2_with fail
  refine (HAN.out _ _ (reads_blk' (n := 2) (size := 3) (Blk.new w 29 _) rfl)).mono ?_
  rintro e w1 ⟨rfl, hb1⟩
  rw [one_anch.1, one_anch.2, HE0]
  have HB1 : Hid (Below w.heap.size w w1) := ((Below.refl _ _).alloc (Nat.le_refl _) _).trans (hb1.mono (by simp))
  have HN := Lib.hid (new_doc w1)
  clear hb1 HAN
  go_wp2_with fail
  refine HN.out.mono ?_
  rintro e w2 ⟨bd, S0, D0, rfl, hd0, hb2⟩
  have HD0 : Hid (DocAt w w1.heap.size bd 0 w2) := DocAt.new hd0 (HB1.out.trans (hb2.mono HB1.out.size)) 0
  have hB : w.heap.size ≤ w1.heap.size := HB1.out.size
  clear hd0 hb2 HN HB1
  go_upto_block 0 with (fail)
  go_cut [15] (fun _ wx => DocAt w w1.heap.size bd 60 wx)
  case first =>
    go_wp2_with fail
    go_loopw [15] (fun i wr => DocLoop w w1.heap.size bd i wr) (fun i _ => 60 - (intOf i).toNat)
    case atStart => exact ⟨0, by omega, rfl, HD0.out⟩
    case round =>
      obtain ⟨k, hk, rfl, HK⟩ := hrel
      have k0 : (0 : Int) ≤ (k : Int) := by omega
      by_cases h1 : k < ys.length
      · have k1 : (k : Int) < (ys.length : Int) := by omega
        by_cases h2 : k < 60
        · have k2 : (k : Int) < 60 := by omega
          obtain ⟨ad, who', nn, what, p', letter', seen, ya, yc, rfl, d0, d1, d2, d3, d4, d5, hC⟩ := HK.out.round hB HR0.out HG.out h1
          have HC := Lib.hid hC
          clear hC HK
          go_wp2_with fail
          refine HC.out.mono ?_
          rintro e w6 ⟨⟨is, ke, rfl⟩, hD⟩
          have HDX := Lib.hid hD
          clear hD HC
          go_wp2_with fail
          go_roundw
          case rel => exact ⟨k + 1, by omega, by go_num, HDX.out⟩
          case measure => simp [intOf]; omega
        · have k2 : ¬ (k : Int) < 60 := by omega
          have HF := Lib.hid (HK.out.more (m := 60) (by omega))
          go_wp2_with fail
          go_meet
          case rel => exact HF.out
      · have k1 : ¬ (k : Int) < (ys.length : Int) := by omega
        have HF := Lib.hid (HK.out.more (m := 60) (by omega))
        go_wp2_with fail
        go_meet
        case rel => exact HF.out
  case rest =>

    obtain ⟨st, S, D, hd, hok, hs, hnn, hl, hbw⟩ := hcut
    obtain ⟨w3, hw3⟩ : ∃ x : World, x = wc := ⟨_, rfl⟩
    subst hw3
    have HD3 := Lib.hid hd
    have HOK := Lib.hid hok
    have HB3 := Lib.hid hbw
    have hfew := hok.book.few
    have HSZ := Lib.hid (sized_ok hok.book)
    have HZ := Lib.hid (bookErr_zero hok.book)
    have htl : (textOf st.book).size ≤ 300 := by have := textL_le st.book; rw [show (textOf st.book).size = (textL st.book).length from strOf_size _]; omega
    have HBK := Lib.hid (book_doc w3 _ _ _ _ _ hd hok)
    clear hd hok hs hnn hbw
    generalize w1.heap.size = B at *
    go_wp2_with fail
    refine HBK.out.mono ?_
    rintro e w4 ⟨V, c, rfl, hO, hb⟩
    have HAC := Lib.hid (anchor_any w4 V c st.book hO.reads HSZ.out hO.cap_le (by have := hO.cap_max; unfold maxLen at this; omega) at_ ha1)
    have HD4 := Lib.hid (HD3.out.below hb)
    have HB4 := Lib.hid (HB3.out.trans (hb.mono HB3.out.size))
    clear hO hb HBK HD3
    by_cases he : anchErr st.book at_ = 0
    · obtain ⟨p1, p2, p3, p4, p5⟩ := plain HOK.out he
      have HE := Lib.hid he
      have HP3 := Lib.hid p3
      have HP4 := Lib.hid p4
      have HP2 := Lib.hid (fun he2 hd2 => plain2 (who := who) (off := off) (text := text) HOK.out HE.out he2 hd2)
      unfold StrPost at HAC
      rw [he] at HAC
      clear he p3 p4
      generalize anchRes st.book at_ = p at *
      go_wp2_with fail
      refine HAC.out.mono ?_
      rintro e w5 ⟨rfl, hb⟩
      rw [HE0]
      have HD5 := Lib.hid (HD4.out.below hb)
      have HB5 := Lib.hid (HB4.out.trans (hb.mono HB4.out.size))
      have HBK := Lib.hid (book_doc w5 _ _ _ _ _ HD5.out HOK.out)
      clear hb HAC HD4 HB4
      go_wp2_with fail
      refine HBK.out.mono ?_
      rintro e w6 ⟨V2, c2, rfl, hO, hb⟩
      have HRC := Lib.hid (resolve_any w6 V2 c2 st.book hO.reads HSZ.out hO.cap_le (by have := hO.cap_max; unfold maxLen at this; omega) p (by omega))
      unfold OffPost at HRC
      rw [HP3.out, HP4.out] at HRC
      have HD6 := Lib.hid (HD5.out.below hb)
      have HB6 := Lib.hid (HB5.out.trans (hb.mono HB5.out.size))
      clear hO hb HBK HD5
      go_wp2_with fail
      refine HRC.out.mono ?_
      rintro e w7 ⟨rfl, hb⟩
      rw [HE0]
      have HD7 := Lib.hid (HD6.out.below hb)
      have HB7 := Lib.hid (HB6.out.trans (hb.mono HB6.out.size))
      have HI := Lib.hid (insert_any w7 _ _ _ _ _ HD7.out HOK.out who off text hw0 hw1 ho1 ht)
      clear hb HRC HD6 HB6
      go_wp2_with fail
      refine HI.out.mono ?_
      rintro e w8 ⟨V3, c3, zs, rfl, hz1, hz2, hb⟩
      have HD8 := Lib.hid (HD7.out.below hb)
      have HB8 := Lib.hid (HB7.out.trans (hb.mono HB7.out.size))
      by_cases hie : st.insE who off text = 0
      · rw [hie, HE0]
        have HAP := Lib.hid (ops_apart HD7.out hz2 (by rw [hz1]; exact insR_small))
        have hzl : zs.length ≤ 200 := by have := insR_len (d := st) (who := who) (off := off) (text := text); rw [← hz1, List.length_map] at this; exact this
        have HDO : Hid (Calls _ _ _ _ _) := do_any w8 _ _ _ _ _ HD8.out HOK.out V3 c3 zs hz2.row.reads HAP.out.1 HAP.out.2 (by omega)
        rw [hz1] at HDO
        have HP2 := Lib.hid (HP2.out hie)
        have hts : text.size ≤ 200 := (insErr_zero (LDoc.ins_ok hie).2.1).1
        have HOK2 := Lib.hid (LDoc.doR_ok (st.insR who off text) HOK.out)
        have HSB : Hid (∀ g ∈ S, w.heap.size ≤ g) := fun g hg => by have := (HD8.out.own g hg).1; omega
        clear hz1 hz2 hb HD7 HI hie
        generalize st.insR who off text = ops at *
        unfold DoPost at HDO
        by_cases hde : st.doE ops = 0
        · rw [hde] at HDO
          obtain ⟨r1, r2⟩ := HP2.out hde
          have R1 := Lib.hid r1
          have R2 := Lib.hid r2
          clear r1 r2 hde HP2
          generalize st.doR ops = st2 at *
          go_wp2_with fail
          refine HDO.out.mono ?_
          rintro e w9 ⟨rfl, S9, D9, hd9, ho9, hs9⟩
          rw [HE0]
          have HB9 := Lib.hid (HB8.out.trans (ho9.below HB8.out.size HSB.out))
          have HD9 := Lib.hid hd9
          have HBK := Lib.hid (book_doc w9 _ _ _ _ _ hd9 HOK2.out)
          clear hd9 ho9 hs9 HDO
          go_wp2_with fail
          refine HBK.out.mono ?_
          rintro e w10 ⟨V4, c4, rfl, hO, hb⟩
          have HRC := Lib.hid (resolve_any w10 V4 c4 st2.book hO.reads (sized_ok HOK2.out.book) hO.cap_le (by have := hO.cap_max; unfold maxLen at this; omega) p (by omega))
          unfold OffPost at HRC
          rw [R1.out, R2.out] at HRC
          have HB10 := Lib.hid (HB9.out.trans (hb.mono HB9.out.size))
          clear hO hb HBK R1 R2
          have q1 : IntKind.i64.wrap (at_ + text.size) = at_ + text.size := IntWalk.i64_in _ (by omega)
          by_cases hoa : off ≤ at_
          · rw [if_pos hoa] at HRC
            go_wp2_with fail
            refine HRC.out.mono ?_
            rintro e w11 ⟨rfl, hb⟩
            rw [HE0]
            have HB11 := Lib.hid (HB10.out.trans (hb.mono HB10.out.size))
            clear hb
            go_wp2_with fail
            go_ret
            exact ⟨by simp, HB11.out⟩
          · rw [if_neg hoa] at HRC
            go_wp2_with fail
            refine HRC.out.mono ?_
            rintro e w11 ⟨rfl, hb⟩
            rw [HE0]
            have HB11 := Lib.hid (HB10.out.trans (hb.mono HB10.out.size))
            clear hb
            go_wp2_with fail
            go_ret
            exact ⟨by simp, HB11.out⟩
        · have HV := Lib.hid (errV_ne hde)
          clear hde HP2
          generalize st.doE ops = ke at *
          go_wp2_with fail
          refine HDO.out.mono ?_
          rintro e w9 ⟨rfl, S9, D9, hd9, ho9, hs9⟩
          rw [HV.out]
          have HB9 := Lib.hid (HB8.out.trans (ho9.below HB8.out.size HSB.out))
          clear hd9 ho9 hs9 HDO
          go_wp2_with fail
          go_ret
          exact ⟨rfl, HB9.out⟩
      · rw [errV_ne hie]
        clear hie hz1 hz2 hb HI HP2
        go_wp2_with fail
        go_ret
        exact ⟨rfl, HB8.out⟩
    · have HV := Lib.hid (errV_ne he)
      have hcs : at_ < 0 ∨ ((textOf st.book).size : Int) < at_ := by
        have := HZ.out
        unfold anchErr at he
        rw [if_neg (by omega)] at he
        split at he
        · assumption
        · omega
      have HTX := Lib.hid (fun W (hW : Below w4.heap.size w4 W) => text_doc W _ _ _ _ _ (HD4.out.below hW) HOK.out)
      clear he
      unfold StrPost at HAC
      generalize anchErr st.book at_ = ke at *
      generalize anchRes st.book at_ = p at *
      generalize textOf st.book = tx at *
      go_wp2_with fail
      refine HAC.out.mono ?_
      rintro e w5 ⟨rfl, hb⟩
      rw [HV.out]
      have HB5 := Lib.hid (HB4.out.trans (hb.mono HB4.out.size))
      have HT := Lib.hid (HTX.out _ hb)
      clear hb HAC HTX
      by_cases hneg : at_ < 0
      · go_wp2_with fail
        go_ret
        exact ⟨rfl, HB5.out⟩
      · have hgt : (tx.size : Int) < at_ := by omega
        go_wp2_with fail
        refine HT.out.mono ?_
        rintro e w6 ⟨rfl, hb⟩
        have HB6 := Lib.hid (HB5.out.trans (hb.mono HB5.out.size))
        clear hb
        go_wp2_with fail
        go_ret
        exact ⟨by simp [hgt], HB6.out⟩
set_option maxRecDepth 100000 in
theorem lifted (os : Os) (started : os.Started) (H : Type) (enc : TypeId × Value → H) :
    ReturnsInHanded {} Try.checked os 5 .any (Rows.cursorStaysSpec.pre6 enc Try.prog Try.f5 Rows.cursorStaysRow.domain false) (Rows.cursorStaysSpec.post enc Try.prog Try.f5 false true false false) := by
  refine returnsInHanded_of_change (C := Try.checked) Try.own started (by kernel_rfl) Try.func5
    (ChangeSpec.witness6 (enc := enc) (C := Try.checked) false ⟨#[], #[.slice none 0 0, .int .i64 0, .int .i64 0, .int .i64 0, .string ⟨#[]⟩], []⟩ 8 (by kernel_rfl) (by kernel_rfl) (by kernel_rfl) (by kernel_rfl)) ?_
  intro W base args ds gs before hval0 hW _ _
  have hval : ∀ (j : Nat) t v, Try.f5.params[j]? = some t → args[j]? = some v → Value.okWide Try.prog W .any base t v := hval0
  obtain ⟨p, q, hA0, _⟩ := id hW
  have hA : DataW.TrodAll enc Try.prog W 0 (fun _ => true) true Try.f5.params.toList args.toList ds p := hA0
  rw [Try.params5] at hA hval
  obtain ⟨v0, v1, v2, v3, v4, d0, d1, d2, d3, d4, p0, p1, p2, p3, p4, rfl, rfl, rfl, h0, h1, h2, h3, h4⟩ := trodAll_five hA
  obtain ⟨A0, c0, l0, rfl, r0, g0, lc0, cm0⟩ := arg_ops (hval 0 22 v0 rfl rfl) h0
  obtain ⟨a1, rfl, rfl, rfl, wa1⟩ := open_int Try.underlying3 (hval 1 3 v1 rfl rfl) h1
  obtain ⟨a2, rfl, rfl, rfl, wa2⟩ := open_int Try.underlying3 (hval 2 3 v2 rfl rfl) h2
  obtain ⟨a3, rfl, rfl, rfl, wa3⟩ := open_int Try.underlying3 (hval 3 3 v3 rfl rfl) h3
  obtain ⟨a4, rfl, rfl, rfl, wa4⟩ := Go.ChangeMaps.open_string Try.underlying9 (hval 4 9 v4 rfl rfl) h4
  refine (walk W A0 c0 l0 a1 a2 a3 a4 r0 g0 (by unfold maxLen at cm0; omega) (i64_of_wf wa1).1 (i64_of_wf wa1).2 (i64_of_wf wa2).1 (i64_of_wf wa2).2 (i64_of_wf wa3).1 (i64_of_wf wa3).2 (by unfold maxLen at wa4; exact wa4)).mono fun e W' ⟨he, hb⟩ => ⟨_, he, ?_⟩
  exact law_post Try.laidOut (tb := 4) (by kernel_rfl) Try.underlying4 (by rw [Try.params5]; simp only [List.mem_cons, List.not_mem_nil, or_false]; rintro t (rfl | rfl | rfl | rfl | rfl) <;> exact ⟨by kernel_rfl, of_decide_eq_true (by kernel_rfl)⟩) rfl rfl hW hb

theorem holds : Rows.CursorStaysSaid :=
  OpenClaim.holds_of_wide 5 Try.f5 rfl rfl rfl rfl rfl rfl rfl ⟨rfl, rfl, rfl, rfl, rfl⟩ rfl rfl rfl rfl rfl (by kernel_rfl) Try.func5 (by kernel_rfl)
    (of_decide_eq_true (by kernel_rfl)) (by unfold Func.isWrapper; first | (rw [if_pos (by decide +kernel)]; kernel_rfl) | (rw [if_neg (by decide +kernel)]; exact ⟨rfl, rfl⟩))
    (fun os started H enc _ => lifted os started H enc)
#print axioms holds
end lawCursorStays
end Go.Proofs.Ytobdollnkndmeaa

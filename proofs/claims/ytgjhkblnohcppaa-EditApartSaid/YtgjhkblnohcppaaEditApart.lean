/- 4 texts in one: each says ahead of itself what is proved, and its conditions. -/
import Derived.Below
import Derived.Carry
import Derived.Deep.CutBlock
import Derived.ProofKit
import Derived.Test.YtgjhkblnohcppaaRows
import Derived.WalkKit
import Derived.Test.YtgjhkblnohcppaaApartLaw
import Derived.Test.YtgjhkblnohcppaaBookFind
import Derived.Test.YtgjhkblnohcppaaDocs2
import Derived.Test.YtgjhkblnohcppaaOpen
import Derived.Test.YtgjhkblnohcppaaOpenLink
/- From a walk to a given statement: one theorem that serves every law of the seat. Conditions: none of our own. -/
namespace Go.Proofs.Ytgjhkblnohcppaa
open Go.RowKit Go.WideShapes Go.ChangeShapes Go.ChangeAt
set_option linter.unusedVariables false

section
variable {H : Type} {enc : TypeId × Value → H} {P : Program}

theorem post_of_below {f : Func} {s : ChangeSpec} {apart fresh handsOn again : Bool} {W W' : World} {args : Array Value} {v : Value} {ds gs : List (DataW H)} {before pa pv : List MemPlace}
    (hW : DataW.Whole enc P f.params.toList s.vars apart W args.toList ds gs before)
    (hres : ∀ (b : Nat) (sp : Nat → Bool) (hd : Bool), DataW.TrodAll enc P W' b sp hd f.resultTypes.toList (v.resultList f.resultTypes.size) (s.fn H (ds ++ gs)).results [])
    (hargs : ∀ sp : Nat → Bool, (∀ p ∈ before, sp p.block = true) → DataW.TrodAll enc P W' 0 sp true f.params.toList args.toList (s.fn H (ds ++ gs)).args pa)
    (hvars : ∀ sp : Nat → Bool, (∀ p ∈ before, sp p.block = true) → DataW.TrodVars enc P W' sp s.vars (s.fn H (ds ++ gs)).vars pv)
    (hps : before = pa ++ pv) (hb : Below W.heap.size W W')
    (hok : ∀ (j : Nat) (t : TypeId) (r : Value), f.resultTypes[j]? = some t → (v.resultList f.resultTypes.size)[j]? = some r → Value.okWide P W' .any 0 t r) :
    s.post enc P f apart fresh handsOn again W args v W' := by
  have hlt : ∀ p ∈ before, p.block < W.heap.size := fun p hp => hW.lt p hp
  have hold : ∀ p ∈ before, (fun b => decide (b < W.heap.size)) p.block = true := fun p hp => by simpa using hlt p hp
  refine ⟨ds, gs, before, [], pa, pv, hW, hres _ _ _, hargs _ hold, hvars _ hold, World.keptBut_mono (fun p hp => ⟨hp, ?_⟩) (hb.frame (· ∈ before)), fun _ => ?_⟩
  · rw [hps, List.mem_append] at hp
    exact Or.inr hp
  · obtain ⟨_, _, _, _, _, hz, hn⟩ := hW
    refine ⟨hok, _, _, ([] ++ pa) ++ pv, ⟨[] ++ pa, pv, trodAll_append (hargs _ (fun _ _ => rfl)) (hres _ _ _), hvars _ (fun _ _ => rfl), rfl, ?_, ?_⟩, ?_⟩
    · intro b off hp
      have hin : MemPlace.cell b off ∈ before := by rw [hps]; simpa using hp
      rw [hb.frozen (hlt _ hin)]
      exact hz b off hin
    · intro ha
      have := hn ha
      rw [hps] at this
      simpa using this
    · intro p hp _
      rw [hps]
      simpa using hp

theorem trodAll_below (hl : laidOutB P = true) {W W' : World} (hb : Below W.heap.size W W') {sp : Nat → Bool} :
    ∀ (ts : List TypeId) (vs : List Value) (ds : List (DataW H)) (ps : List MemPlace), (∀ t ∈ ts, P.readableRec t = true ∧ t < P.types.size) → (∀ p ∈ ps, p.block < W.heap.size) → (∀ p ∈ ps, sp p.block = true) →
      DataW.TrodAll enc P W 0 (fun _ => true) true ts vs ds ps → DataW.TrodAll enc P W' 0 sp true ts vs ds ps := by
  intro ts
  induction ts with
  | nil => intro vs ds ps _ _ _ h; cases vs <;> cases ds <;> simp_all [DataW.TrodAll]
  | cons t ts ih =>
    intro vs ds ps ht hlt hs h
    cases vs with
    | nil => simp [DataW.TrodAll] at h
    | cons v vs =>
      cases ds with
      | nil => simp [DataW.TrodAll] at h
      | cons d ds =>
        obtain ⟨p, q, h1, h2, rfl⟩ := h
        exact ⟨p, q, WideElems.Trod_stays hl (ht t (by simp)).1 (ht t (by simp)).2 h1 (fun x hx => hb.same (hlt x (by simp [hx]))) (fun x hx => hs x (by simp [hx])),
          ih vs ds q (fun t' h' => ht t' (by simp [h'])) (fun x hx => hlt x (by simp [hx])) (fun x hx => hs x (by simp [hx])) h2, rfl⟩

/-- A law: it answered true, and nothing that was there has turned. -/
theorem law_post (hl : laidOutB P = true) {f : Func} {s : ChangeSpec} {apart fresh handsOn again : Bool} {tb : TypeId} {W W' : World} {args : Array Value} {ds gs : List (DataW H)} {before : List MemPlace}
    (hr : f.resultTypes = #[tb]) (htb : P.underlying tb = some .bool) (hp : ∀ t ∈ f.params.toList, P.readableRec t = true ∧ t < P.types.size) (hv : s.vars = [])
    (hfn : s.fn H ds = { results := [.lit (.bool true)], args := ds })
    (hW : DataW.Whole enc P f.params.toList s.vars apart W args.toList ds gs before) (hb : Below W.heap.size W W') :
    s.post enc P f apart fresh handsOn again W args (.bool true) W' := by
  have hW' := hW
  obtain ⟨p, q, hA, hV, hpq, hfz, hnd⟩ := hW
  have hlt : ∀ x ∈ before, x.block < W.heap.size := fun x hx => hW'.lt x hx
  rw [hv] at hV
  obtain ⟨hgs, hq⟩ := trodVars_none hV
  subst hgs; subst hq
  simp only [List.append_nil] at hpq
  subst hpq
  refine post_of_below (pa := before) (pv := []) hW' ?_ ?_ ?_ (by simp) hb ?_
  · intro b sp hd
    rw [List.append_nil, hfn, hr]
    exact trodAll_mk1 (shut_bool htb _)
  · intro sp hs
    rw [List.append_nil, hfn]
    exact trodAll_below hl hb _ _ _ _ hp hlt hs hA
  · intro sp hs
    rw [List.append_nil, hfn, hv]
    exact rfl
  · exact ok_one hr rfl (okWide_bool_mk htb _)
end

theorem Try.own : ownKnob Try.prog.godebug = none := by kernel_rfl
theorem Try.laidOut : laidOutB Try.prog = true := by kernel_rfl
end Go.Proofs.Ytgjhkblnohcppaa
/- The law's stand, walked: the letters of a text stand in a book, in their order. Conditions: they do. -/
namespace Go.Proofs.Ytgjhkblnohcppaa
open Go.RowKit
set_option linter.unusedVariables false
theorem tl_at {s : ByteArray} {k : Nat} (h : k < s.size) (h' : k < s.toList.length) : s.toList[k] = s[k] := by
  have := List.getElem_of_eq (toList_data s) h'
  rw [this]
  rfl
def StandLoop (w : World) (L : List LLeaf) (zs : List OpAt) (last i : Value) (wr : World) : Prop :=
  ∃ (k : Nat) (q : Int), k ≤ zs.length ∧ i = .int .i64 k ∧ last = .int .i64 q ∧ -1 ≤ q ∧ (∀ j (hj : j < zs.length), k ≤ j → q < (ahead L zs[j].op.place : Int)) ∧ Hid (Below w.heap.size w wr)
set_option maxRecDepth 100000 in
set_option maxHeartbeats 4000000 in
theorem stand_any (w : World) (A : Option Addr) (ca : Nat) (L : List LLeaf) (V : Option Addr) (cv : Nat) (zs : List OpAt) (text : ByteArray) (h1 : Reads w w.heap.size 3 A L.length (lcells L)) (ok : BookOk L) (h2 : Reads w w.heap.size 6 V zs.length (ocells zs))
    (hs : Stand L (zs.map OpAt.op) text.toList) (hz : zs.length ≤ 200) : Calls Try.prog 34 #[.slice A L.length ca, .slice V zs.length cv, .string text] w (CheckPost w (.bool true)) := by
  have HR1 := Lib.hid h1
  have HR2 := Lib.hid h2
  have HS := Lib.hid hs
  have OK := Lib.hid ok
  have hfew := ok.few
  have hlen : text.size = zs.length := by have := hs.len; rw [List.length_map, toList_len] at this; omega
  have HLEN := Lib.hid hlen
  clear h1 h2 hs ok hlen
  go_enter Try.func34, Try.ntmps34
  go_wp2_with fail
  go_loopw [7, 8] (fun v i wr => StandLoop w L zs v i wr) (fun _ i _ => zs.length - (intOf i).toNat)
  case atStart => exact ⟨0, -1, Nat.zero_le _, rfl, rfl, by omega, fun _ _ _ => by omega, Below.refl _ _⟩
  case round =>
    obtain ⟨k, q, hk, rfl, rfl, hq, hall, HB⟩ := hrel
    have k0 : (0 : Int) ≤ (k : Int) := by omega
    by_cases hlt : k < zs.length
    · have k1 : (k : Int) < (zs.length : Int) := by omega
      have hkt : k < text.size := by have := HLEN.out; omega
      have kt : (k : Int) < (text.size : Int) := by omega
      obtain ⟨h1, h2, h3, h4⟩ := HS.out.at_ k (by simpa using hlt) (by rw [toList_len]; exact hkt)
      simp only [List.getElem_map] at h1 h2 h3 h4
      rw [tl_at hkt] at h3
      have hqk := hall k hlt (Nat.le_refl _)
      have HNX : Hid (∀ j (hj : j < zs.length), k + 1 ≤ j → ahead L zs[k].op.place < ahead L zs[j].op.place) := fun j hj h => by
        have := HS.out.rise k j (by simpa using hj) (by simpa using hlt) (by omega)
        simpa using this
      obtain ⟨az, rfl, _, z0, z1, z2, z3, z4, z5⟩ := (HR2.out.below HB.out).op hlt
      have HF := Lib.hid (find_any wr A ca L zs[k].op.place ((HR1.out.below HB.out).more HB.out.size) (by omega) OK.out.rising)
      obtain ⟨ad, hA, _⟩ := HR1.out.leaf h2
      subst hA
      have HCL : Hid (∀ W, Below w.heap.size w W → W.cell? ⟨(ad.add (ahead L zs[k].op.place * 3)).block, (ad.add (ahead L zs[k].op.place * 3)).off + 1, none⟩ = some (.int .i64 (text[k].toNat : Int)) ∧ W.cell? ⟨(ad.add (ahead L zs[k].op.place * 3)).block, (ad.add (ahead L zs[k].op.place * 3)).off + 2, none⟩ = some (.bool false)) := fun W hb => by
        obtain ⟨ad', e, _, c0, c1, c2⟩ := (HR1.out.below hb).leaf h2
        injection e with e
        subst e
        rw [h3] at c1
        rw [h4] at c2
        exact ⟨c1, c2⟩
      unfold FindPost at HF
      rw [h1] at HF
      clear h1 h3 h4 hall
      generalize ahead L zs[k].op.place = m at *
      generalize zs[k].op.place = p at *
      have m0 : (0 : Int) ≤ (m : Int) := by omega
      have m1 : (m : Int) < (L.length : Int) := by omega
      have g1 : decide ((m : Int) ≤ q) = false := decide_eq_false (by omega)
      have hby : (text[k].toNat : Int) ≤ 255 := by have := UInt8.toNat_lt text[k]; omega
      have g2 : (((text[k].toNat : Nat) : Int) != ((text[k].toNat : Nat) : Int)) = false := by simp
      have g3 : wrap64 ((text[k].toNat : Nat) : Int) = ((text[k].toNat : Nat) : Int) := by unfold wrap64; omega
      have g4 : (((text[k].toNat : Nat) : Int) != wrap64 ((text[k].toNat : Nat) : Int)) = false := by rw [g3]; simp
      go_wp2_with fail
      refine HF.out.mono ?_
      rintro e w2 ⟨rfl, hb2⟩
      have HB2 := Lib.hid (HB.out.trans (hb2.mono HB.out.size))
      obtain ⟨c1, c2⟩ := HCL.out _ HB2.out
      clear hb2 HF
      go_wp2_with fail
      go_quiet (fail)
      go_wp2_with fail
      go_roundw
      case rel => exact ⟨k + 1, (m : Int), by omega, by go_num, rfl, by omega, fun j hj h => by have := HNX.out j hj h; omega, below_drewN HB2.out _⟩
      case measure => simp [intOf]; omega
    · have k1 : ¬ (k : Int) < (zs.length : Int) := by omega
      have g1 : ((zs.length : Int) == (text.size : Int)) = true := by rw [beq_iff_eq, HLEN.out]
      go_wp2_with fail
      go_ret
      exact ⟨rfl, HB.out⟩
end Go.Proofs.Ytgjhkblnohcppaa
/- Seven arguments taken apart. Plain lemma. Conditions: none. -/
namespace Go.Proofs.Ytgjhkblnohcppaa
open Go.WideShapes Go.ChangeShapes
section
variable {H : Type} {enc : TypeId × Value → H} {P : Program} {w : World} {base : Nat} {spare : Nat → Bool} {held : Bool}
theorem trodAll_seven {t t' t'' t3 t4 t5 t6 : TypeId} {args : Array Value} {ds : List (DataW H)} {ps : List MemPlace} (h : DataW.TrodAll enc P w base spare held [t, t', t'', t3, t4, t5, t6] args.toList ds ps) :
    ∃ v v' v'' v3 v4 v5 v6 d d' d'' d3 d4 d5 d6 p p' p'' p3 p4 p5 p6, args = #[v, v', v'', v3, v4, v5, v6] ∧ ds = [d, d', d'', d3, d4, d5, d6] ∧ ps = p ++ p' ++ p'' ++ p3 ++ p4 ++ p5 ++ p6 ∧ DataW.Trod enc P w base spare held t v d p ∧ DataW.Trod enc P w base spare held t' v' d' p' ∧
      DataW.Trod enc P w base spare held t'' v'' d'' p'' ∧ DataW.Trod enc P w base spare held t3 v3 d3 p3 ∧ DataW.Trod enc P w base spare held t4 v4 d4 p4 ∧ DataW.Trod enc P w base spare held t5 v5 d5 p5 ∧ DataW.Trod enc P w base spare held t6 v6 d6 p6 := by
  obtain ⟨v, vs, d, ds', p, q, hargs, rfl, rfl, hd, hrest⟩ := trodAll_cons h
  obtain ⟨v', vs', d', ds'', p', q', rfl, rfl, rfl, hd', hrest'⟩ := trodAll_cons hrest
  obtain ⟨v'', vs'', d'', ds''', p'', q'', rfl, rfl, rfl, hd'', hrest''⟩ := trodAll_cons hrest'
  obtain ⟨v3, vs3, d3, ds4, p3, q3, rfl, rfl, rfl, hd3, hrest3⟩ := trodAll_cons hrest''
  obtain ⟨v4, vs4, d4, ds5, p4, q4, rfl, rfl, rfl, hd4, hrest4⟩ := trodAll_cons hrest3
  obtain ⟨v5, vs5, d5, ds6, p5, q5, rfl, rfl, rfl, hd5, hrest5⟩ := trodAll_cons hrest4
  obtain ⟨v6, vs6, d6, ds7, p6, q6, rfl, rfl, rfl, hd6, hrest6⟩ := trodAll_cons hrest5
  obtain ⟨rfl, rfl, rfl⟩ := trodAll_nil hrest6
  exact ⟨v, v', v'', v3, v4, v5, v6, d, d', d'', d3, d4, d5, d6, p, p', p'', p3, p4, p5, p6, by cases args; simp_all, rfl, by simp, hd, hd', hd'', hd3, hd4, hd5, hd6⟩
end
end Go.Proofs.Ytgjhkblnohcppaa
/- leaflaw2.EditApart, proved: two authors that write at once, at the same place or not, and then have what the other one did, have the same; the letters of each stand in their order, and all of them. Conditions: none of our own. -/
namespace Go.Proofs.Ytgjhkblnohcppaa
open Go.RowKit Go.WideShapes Go.ChangeShapes Go.ChangeAt
set_option linter.unusedVariables false
namespace lawEditApart
def xT : ByteArray := ⟨#[120]⟩
theorem x_ins : LDoc.new.insE 3 0 xT = 0 := by decide +kernel
theorem x_do : LDoc.new.doE (LDoc.new.insR 3 0 xT) = 0 := by decide +kernel
theorem x_text : textOf (LDoc.new.doR (LDoc.new.insR 3 0 xT)).book = ⟨#[120]⟩ := by decide +kernel
set_option maxRecDepth 100000 in
set_option maxHeartbeats 8000000 in
theorem walk (w : World) (A0 : Option Addr) (c0 : Nat) (ys : List OpAt) (who at_ : Int) (text : ByteArray) (other too : Int) (word : ByteArray) (h0 : Reads w w.heap.size 6 A0 ys.length (ocells ys)) (hg : ∀ y ∈ ys, y.Good w)
    (hn0 : ys.length ≤ 9223372036854775807) (hw0 : -9223372036854775808 ≤ who) (hw1 : who ≤ 9223372036854775807) (ha1 : at_ ≤ 9223372036854775807) (ht : text.size ≤ 9223372036854775807)
    (ho0 : -9223372036854775808 ≤ other) (ho1 : other ≤ 9223372036854775807) (hto : too ≤ 9223372036854775807) (hwd : word.size ≤ 9223372036854775807) :
    Calls Try.prog 6 #[.slice A0 ys.length c0, .int .i64 who, .int .i64 at_, .string text, .int .i64 other, .int .i64 too, .string word] w (CheckPost w (.bool true)) := by
  have HR0 := Lib.hid h0
  have HG := Lib.hid hg
  have HE0 : errV 0 = .nilIface := rfl
  have HN := Lib.hid (fun W => new_doc W)
  have OKX := Lib.hid (LDoc.doR_ok (LDoc.new.insR 3 0 xT) LDoc.new_ok)
  clear h0 hg
  go_enter Try.func6, Try.ntmps6
  go_wp2_with fail
  refine (HN.out w).mono ?_
  rintro e w1 ⟨b1, S1, D1, rfl, hd1, hb1⟩
  have HD1 := Lib.hid hd1
  have HB1 := Lib.hid hb1
  clear hd1 hb1
  go_wp2_with fail
  refine (HN.out w1).mono ?_
  rintro e w2 ⟨b2, S2, D2, rfl, hd2, hb2⟩
  have HS2 : Hid (Scene w w.heap.size b1 b2 LDoc.new LDoc.new [] w2) := Scene.of_docs (Docs2.make HB1.out (Nat.le_refl _) HD1.out hb2 hd2)
  clear hd2 hb2 HD1 HB1
  have HI := Lib.hid (HS2.out.insL LDoc.new_ok 3 0 xT (by decide) (by decide) (by decide) (by decide))
  go_wp2_with fail
  refine HI.out.mono ?_
  rintro e w3 ⟨V, c, zs, rfl, hz, hzl, hs⟩
  rw [x_ins, HE0]
  have HS3 := Lib.hid hs
  have HDO := Lib.hid (HS3.out.doL LDoc.new_ok (V := V) (zs := zs) (by simp) c (by omega))
  rw [hz, x_do] at HDO
  have HZ := Lib.hid hz
  clear hs hz HI HS2
  go_wp2_with fail
  refine HDO.out.mono ?_
  rintro e w4 ⟨rfl, hs⟩
  rw [HE0]
  have HS4 := Lib.hid hs
  have HDO := Lib.hid (HS4.out.doR LDoc.new_ok (V := V) (zs := zs) (by simp) c (by omega))
  rw [HZ.out, x_do] at HDO
  clear hs HS3
  go_wp2_with fail
  refine HDO.out.mono ?_
  rintro e w5 ⟨rfl, hs⟩
  rw [HE0]
  have HS5 := Lib.hid hs
  have HTX := Lib.hid (HS5.out.textR OKX.out)
  rw [x_text] at HTX
  clear hs HS4 HDO
  go_wp2_with fail
  refine HTX.out.mono ?_
  rintro e w6 ⟨rfl, hb, hs⟩
  have HB6 := Lib.hid hs.below
  clear hb hs HTX HS5 HZ
  go_wp2_with fail
  refine (HN.out w6).mono ?_
  rintro e w7 ⟨ba, S1, D1, rfl, hd1, hb1⟩
  have HD1 := Lib.hid hd1
  have HB7 := Lib.hid (HB6.out.trans (hb1.mono HB6.out.size))
  clear hd1 hb1
  go_wp2_with fail
  refine (HN.out w7).mono ?_
  rintro e w8 ⟨bb, S2, D2, rfl, hd2, hb2⟩
  have HP8 : Hid (PairAt w w6.heap.size ba bb 0 w8) := ⟨LDoc.new, S1, S2, D1, D2, Docs2.make HB7.out HB6.out.size HD1.out hb2 hd2, LDoc.new_ok, Says.new, Nat.zero_le _⟩
  clear hd2 hb2 HD1 HB7 HB6 HN
  generalize w6.heap.size = B at *
  go_upto_block 0 with (fail)
  go_cut [19] (fun _ wx => PairAt w B ba bb 60 wx)
  case first =>
    go_wp2_with fail
    go_loopw [19] (fun i wr => PairLoop w B ba bb i wr) (fun i _ => 60 - (intOf i).toNat)
    case atStart => exact ⟨0, by omega, rfl, HP8.out⟩
    case round =>
      obtain ⟨k, hk, rfl, HK⟩ := hrel
      have k0 : (0 : Int) ≤ (k : Int) := by omega
      by_cases h1 : k < ys.length
      · have k1 : (k : Int) < (ys.length : Int) := by omega
        by_cases h2 : k < 60
        · have k2 : (k : Int) < 60 := by omega
          obtain ⟨ad, who', nn, what, p', letter', seen, ya, yc, rfl, hbw, HCL, HC⟩ := HK.out.round HR0.out HG.out h1
          obtain ⟨d0, d1, d2, d3, d4, d5⟩ := HCL.out _ hbw
          clear hbw HK
          go_wp2_with fail
          refine HC.out.mono ?_
          rintro e w9 ⟨⟨is, ke, rfl⟩, hbw, hC⟩
          have HC := Lib.hid hC
          clear d0 d1 d2 d3 d4 d5 hC
          obtain ⟨d0, d1, d2, d3, d4, d5⟩ := HCL.out _ hbw
          clear hbw
          go_wp2_with fail
          refine HC.out.mono ?_
          rintro e w10 ⟨⟨is2, ke2, rfl⟩, hD⟩
          have HDX := Lib.hid hD
          clear hD HC
          go_wp2_with fail
          go_roundw
          case rel => exact ⟨k + 1, by omega, by go_num, HDX.out⟩
          case measure => simp [intOf]; omega
        · have k2 : ¬ (k : Int) < 60 := by omega
          have HF := Lib.hid (HK.out.more (m := 60) (by omega))
          go_wp2_with fail
          go_meet
          case rel => exact HF.out
      · have k1 : ¬ (k : Int) < (ys.length : Int) := by omega
        have HF := Lib.hid (HK.out.more (m := 60) (by omega))
        go_wp2_with fail
        go_meet
        case rel => exact HF.out
  case rest =>
    obtain ⟨st, S1, S2, D1, D2, hd, hok, hsays, _⟩ := hcut
    obtain ⟨wm, hwm⟩ : ∃ x : World, x = wc := ⟨_, rfl⟩
    subst hwm
    have HS0 : Hid (Scene w B ba bb st st [] wm) := Scene.of_docs hd
    have OK := Lib.hid hok
    have SAYS := Lib.hid hsays
    clear hd hok hsays HP8
    by_cases hwo : who = other
    · have HBF := Lib.hid HS0.out.below
      clear HS0
      go_wp2_with fail
      go_ret
      exact ⟨rfl, HBF.out⟩
    · have HNE := Lib.hid hwo
      have g0 : (who == other) = false := by rw [beq_eq_false_iff_ne]; exact hwo
      clear hwo
      have HI := Lib.hid (HS0.out.insL OK.out who at_ text hw0 hw1 ha1 ht)
      go_wp2_with fail
      refine HI.out.mono ?_
      rintro e w9 ⟨Vx, cx, xs, rfl, hx1, hx2, hs⟩
      have HX1 := Lib.hid hx1
      have HS9 := Lib.hid hs
      have HI := Lib.hid (HS9.out.insR OK.out other too word ho0 ho1 hto hwd)
      clear hx1 hs HS0
      go_wp2_with fail
      refine HI.out.mono ?_
      rintro e w10 ⟨Vy, cy, zs2, rfl, hy1, hy2, hs⟩
      have HY1 := Lib.hid hy1
      have HS10 := Lib.hid hs
      clear hy1 hs HS9 HI
      by_cases hix : st.insE who at_ text = 0
      · by_cases hiy : st.insE other too word = 0
        · rw [hix, hiy, HE0]
          have HIX := Lib.hid hix
          have HIY := Lib.hid hiy
          have HD1 := Lib.hid (HS10.out.doL OK.out (V := Vx) (zs := xs) (by simp) cx (by omega))
          rw [HX1.out] at HD1
          have HRX := Lib.hid (fun hh => LDoc.apart_plain OK.out SAYS.out HNE.out HIX.out HIY.out hh)
          have OK1 := Lib.hid (LDoc.doR_ok (st.insR who at_ text) OK.out)
          have OK2 := Lib.hid (LDoc.doR_ok (st.insR other too word) OK.out)
          have OK3 := Lib.hid (LDoc.doR_ok (st.insR other too word) OK1.out)
          have OK4 := Lib.hid (LDoc.doR_ok (st.insR who at_ text) OK2.out)
          clear hix hiy HIX HIY
          generalize st.insR who at_ text = X at *
          generalize st.insR other too word = Y at *
          by_cases e1 : st.doE X = 0
          · have HRX := Lib.hid (HRX.out e1)
            rw [e1] at HD1
            clear e1
            go_wp2_with fail
            refine HD1.out.mono ?_
            rintro e w11 ⟨rfl, hs⟩
            rw [HE0]
            have HS11 : Hid (Scene w B ba bb (st.doR X) st [(Vy, zs2), (Vx, xs)] w11) := hs
            have HD2 := Lib.hid (HS11.out.doR OK.out (V := Vy) (zs := zs2) (by simp) cy (by omega))
            rw [HY1.out] at HD2
            clear hs HS10 HD1
            by_cases e2 : st.doE Y = 0
            · have HRX := Lib.hid (HRX.out e2)
              rw [e2] at HD2
              clear e2
              go_wp2_with fail
              refine HD2.out.mono ?_
              rintro e w12 ⟨rfl, hs⟩
              rw [HE0]
              have HS12 : Hid (Scene w B ba bb (st.doR X) (st.doR Y) [(Vy, zs2), (Vx, xs)] w12) := hs
              have HD3 := Lib.hid (HS12.out.doL OK1.out (V := Vy) (zs := zs2) (by simp) cy (by omega))
              rw [HY1.out] at HD3
              clear hs HS11 HD2
              by_cases e3 : (st.doR X).doE Y = 0
              · have HRX := Lib.hid (HRX.out e3)
                rw [e3] at HD3
                clear e3
                go_wp2_with fail
                refine HD3.out.mono ?_
                rintro e w13 ⟨rfl, hs⟩
                rw [HE0]
                have HS13 : Hid (Scene w B ba bb ((st.doR X).doR Y) (st.doR Y) [(Vy, zs2), (Vx, xs)] w13) := hs
                have HD4 := Lib.hid (HS13.out.doR OK2.out (V := Vx) (zs := xs) (by simp) cx (by omega))
                rw [HX1.out] at HD4
                clear hs HS12 HD3
                by_cases e4 : (st.doR Y).doE X = 0
                · obtain ⟨r1, r2, r3⟩ := HRX.out e4
                  rw [e4] at HD4
                  have R1 := Lib.hid r1
                  have R2 := Lib.hid r2
                  have R3 := Lib.hid r3
                  clear e4 r1 r2 r3 HRX
                  generalize (st.doR X).doR Y = a at *
                  generalize (st.doR Y).doR X = b at *
                  go_wp2_with fail
                  refine HD4.out.mono ?_
                  rintro e w14 ⟨rfl, hs⟩
                  rw [HE0]
                  have HS14 := Lib.hid hs
                  have HK := Lib.hid (HS14.out.bookL OK3.out)
                  have hfew := OK3.out.book.few
                  clear hs HS13 HD4
                  go_wp2_with fail
                  refine HK.out.mono ?_
                  rintro e w15 ⟨V1, c1, rfl, ho1, hb, hs⟩
                  have HS15 := Lib.hid hs
                  have HO1 := Lib.hid ho1
                  have HK := Lib.hid (HS15.out.bookR OK4.out)
                  rw [← R1.out] at HK
                  clear hs hb ho1 HS14
                  go_wp2_with fail
                  refine HK.out.mono ?_
                  rintro e w16 ⟨V2, c2, rfl, ho2, hb, hs⟩
                  have HS16 := Lib.hid hs
                  have HL := Lib.hid (leafs_same w16 V1 V2 c1 c2 a.book (HO1.out.below hb).reads ho2.reads (by omega))
                  clear hs hb ho2 HS15 HK HO1
                  go_wp2_with fail
                  refine HL.out.mono ?_
                  rintro e w17 ⟨rfl, hb⟩
                  have HS17 := Lib.hid (HS16.out.step hb)
                  have HT := Lib.hid (HS17.out.textL OK3.out)
                  clear hb HL HS16
                  go_wp2_with fail
                  refine HT.out.mono ?_
                  rintro e w18 ⟨rfl, hb, hs⟩
                  have HS18 := Lib.hid hs
                  have HT := Lib.hid (HS18.out.textR OK4.out)
                  rw [← R1.out] at HT
                  clear hb hs HS17
                  go_wp2_with fail
                  refine HT.out.mono ?_
                  rintro e w19 ⟨rfl, hb, hs⟩
                  have HS19 := Lib.hid hs
                  have HK := Lib.hid (HS19.out.bookL OK3.out)
                  have gt : ((textOf a.book).toList == (textOf a.book).toList) = true := by simp
                  clear hb hs HT HS18
                  go_wp2_with fail
                  refine HK.out.mono ?_
                  rintro e w20 ⟨V3, c3, rfl, ho3, hb, hs⟩
                  have HS20 := Lib.hid hs
                  have HST := Lib.hid (stand_any w20 V3 c3 a.book Vx cx xs text ho3.reads OK3.out.book (HS20.out.rows_ (by simp)) (by rw [HX1.out]; exact R2.out) hx2)
                  clear hb hs ho3 HK HS19
                  go_wp2_with fail
                  refine HST.out.mono ?_
                  rintro e w21 ⟨rfl, hb⟩
                  have HS21 := Lib.hid (HS20.out.step hb)
                  have HK := Lib.hid (HS21.out.bookL OK3.out)
                  clear hb HST HS20
                  go_wp2_with fail
                  refine HK.out.mono ?_
                  rintro e w22 ⟨V4, c4, rfl, ho4, hb, hs⟩
                  have HS22 := Lib.hid hs
                  have HST := Lib.hid (stand_any w22 V4 c4 a.book Vy cy zs2 word ho4.reads OK3.out.book (HS22.out.rows_ (by simp)) (by rw [HY1.out]; exact R3.out) hy2)
                  clear hb hs ho4 HK HS21
                  go_wp2_with fail
                  refine HST.out.mono ?_
                  rintro e w23 ⟨rfl, hb⟩
                  have HBF := Lib.hid (HS22.out.step hb).below
                  clear hb HST HS22
                  go_wp2_with fail
                  go_ret
                  exact ⟨rfl, HBF.out⟩
                · have HV := Lib.hid (errV_ne e4)
                  clear e4 HRX
                  generalize (st.doR Y).doE X = ke at *
                  go_wp2_with fail
                  refine HD4.out.mono ?_
                  rintro e w14 ⟨rfl, hs⟩
                  rw [HV.out]
                  have HBF := Lib.hid hs.below
                  clear hs HD4
                  go_wp2_with fail
                  go_ret
                  exact ⟨rfl, HBF.out⟩
              · have HV := Lib.hid (errV_ne e3)
                clear e3 HRX
                generalize (st.doR X).doE Y = ke at *
                go_wp2_with fail
                refine HD3.out.mono ?_
                rintro e w13 ⟨rfl, hs⟩
                rw [HV.out]
                have HBF := Lib.hid hs.below
                clear hs HD3
                go_wp2_with fail
                go_ret
                exact ⟨rfl, HBF.out⟩
            · have HV := Lib.hid (errV_ne e2)
              clear e2 HRX
              generalize st.doE Y = ke at *
              go_wp2_with fail
              refine HD2.out.mono ?_
              rintro e w12 ⟨rfl, hs⟩
              rw [HV.out]
              have HBF := Lib.hid hs.below
              clear hs HD2
              go_wp2_with fail
              go_ret
              exact ⟨rfl, HBF.out⟩
          · have HV := Lib.hid (errV_ne e1)
            clear e1 HRX
            generalize st.doE X = ke at *
            go_wp2_with fail
            refine HD1.out.mono ?_
            rintro e w11 ⟨rfl, hs⟩
            rw [HV.out]
            have HBF := Lib.hid hs.below
            clear hs HD1
            go_wp2_with fail
            go_ret
            exact ⟨rfl, HBF.out⟩
        · rw [hix, HE0, errV_ne hiy]
          have HBF := Lib.hid HS10.out.below
          clear hix hiy HS10
          go_wp2_with fail
          go_ret
          exact ⟨rfl, HBF.out⟩
      · rw [errV_ne hix]
        have HBF := Lib.hid HS10.out.below
        clear hix HS10
        go_wp2_with fail
        go_ret
        exact ⟨rfl, HBF.out⟩
set_option maxRecDepth 100000 in
theorem lifted (os : Os) (started : os.Started) (H : Type) (enc : TypeId × Value → H) :
    ReturnsInHanded {} Try.checked os 6 .any (Rows.editApartSpec.pre6 enc Try.prog Try.f6 Rows.editApartRow.domain false) (Rows.editApartSpec.post enc Try.prog Try.f6 false true false false) := by
  refine returnsInHanded_of_change (C := Try.checked) Try.own started (by kernel_rfl) Try.func6
    (ChangeSpec.witness6 (enc := enc) (C := Try.checked) false ⟨#[], #[.slice none 0 0, .int .i64 0, .int .i64 0, .string ⟨#[]⟩, .int .i64 0, .int .i64 0, .string ⟨#[]⟩], []⟩ 8 (by kernel_rfl) (by kernel_rfl) (by kernel_rfl) (by kernel_rfl)) ?_
  intro W base args ds gs before hval0 hW _ _
  have hval : ∀ (j : Nat) t v, Try.f6.params[j]? = some t → args[j]? = some v → Value.okWide Try.prog W .any base t v := hval0
  obtain ⟨p, q, hA0, _⟩ := id hW
  have hA : DataW.TrodAll enc Try.prog W 0 (fun _ => true) true Try.f6.params.toList args.toList ds p := hA0
  rw [Try.params6] at hA hval
  obtain ⟨v0, v1, v2, v3, v4, v5, v6, d0, d1, d2, d3, d4, d5, d6, p0, p1, p2, p3, p4, p5, p6, rfl, rfl, rfl, h0, h1, h2, h3, h4, h5, h6⟩ := trodAll_seven hA
  obtain ⟨A0, c0, l0, rfl, r0, g0, lc0, cm0⟩ := arg_ops (hval 0 51 v0 rfl rfl) h0
  obtain ⟨a1, rfl, rfl, rfl, wa1⟩ := open_int Try.underlying3 (hval 1 3 v1 rfl rfl) h1
  obtain ⟨a2, rfl, rfl, rfl, wa2⟩ := open_int Try.underlying3 (hval 2 3 v2 rfl rfl) h2
  obtain ⟨a3, rfl, rfl, rfl, wa3⟩ := Go.ChangeMaps.open_string Try.underlying9 (hval 3 9 v3 rfl rfl) h3
  obtain ⟨a4, rfl, rfl, rfl, wa4⟩ := open_int Try.underlying3 (hval 4 3 v4 rfl rfl) h4
  obtain ⟨a5, rfl, rfl, rfl, wa5⟩ := open_int Try.underlying3 (hval 5 3 v5 rfl rfl) h5
  obtain ⟨a6, rfl, rfl, rfl, wa6⟩ := Go.ChangeMaps.open_string Try.underlying9 (hval 6 9 v6 rfl rfl) h6
  refine (walk W A0 c0 l0 a1 a2 a3 a4 a5 a6 r0 g0 (by unfold maxLen at cm0; omega) (i64_of_wf wa1).1 (i64_of_wf wa1).2 (i64_of_wf wa2).2 (by unfold maxLen at wa3; exact wa3) (i64_of_wf wa4).1 (i64_of_wf wa4).2 (i64_of_wf wa5).2 (by unfold maxLen at wa6; exact wa6)).mono fun e W' ⟨he, hb⟩ => ⟨_, he, ?_⟩
  exact law_post Try.laidOut (tb := 4) (by kernel_rfl) Try.underlying4 (by rw [Try.params6]; simp only [List.mem_cons, List.not_mem_nil, or_false]; rintro t (rfl | rfl | rfl | rfl | rfl | rfl | rfl) <;> exact ⟨by kernel_rfl, of_decide_eq_true (by kernel_rfl)⟩) rfl rfl hW hb

theorem holds : Rows.EditApartSaid :=
  OpenClaim.holds_of_wide 6 Try.f6 rfl rfl rfl rfl rfl rfl rfl ⟨rfl, rfl, rfl, rfl, rfl⟩ rfl rfl rfl rfl rfl (by kernel_rfl) Try.func6 (by kernel_rfl)
    (of_decide_eq_true (by kernel_rfl)) (by unfold Func.isWrapper; first | (rw [if_pos (by decide +kernel)]; kernel_rfl) | (rw [if_neg (by decide +kernel)]; exact ⟨rfl, rfl⟩))
    (fun os started H enc _ => lifted os started H enc)
#print axioms holds
end lawEditApart
end Go.Proofs.Ytgjhkblnohcppaa

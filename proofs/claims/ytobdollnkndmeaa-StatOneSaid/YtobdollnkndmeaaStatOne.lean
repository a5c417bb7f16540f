/- 7 texts in one: each says ahead of itself what is proved, and its conditions. -/
import Derived.Below
import Derived.ProofKit
import Derived.Test.YtobdollnkndmeaaRows
import Derived.WalkKit
import Derived.Test.YtobdollnkndmeaaBook
import Derived.Test.YtobdollnkndmeaaCursorLaw
import Derived.Test.YtobdollnkndmeaaDocGo
import Derived.Test.YtobdollnkndmeaaDocHelp
import Derived.Test.YtobdollnkndmeaaEditIns
import Derived.Test.YtobdollnkndmeaaEditSpec
import Derived.Test.YtobdollnkndmeaaOpen
import Derived.Test.YtobdollnkndmeaaStatOneLaw
/- edit.Do, walked. Conditions: the document is right; the ops can be read, and lie apart from it. -/
namespace Go.Proofs.Ytobdollnkndmeaa
open Go.RowKit
set_option linter.unusedVariables false
/-- An op's dots can be read, and lie apart from the blocks S. -/
def OpFar (w : World) (S : List Nat) (y : OpAt) : Prop := Reads w w.heap.size 2 y.at_ y.op.seen.length (dcells y.op.seen) ∧ y.op.place.size ≤ 9223372036854775807 ∧ (0 < y.op.seen.length → ∀ g ∈ ob y.at_, g ∉ S)
structure DoMid (w : World) (B : Nat) (S : List Nat) (b : Nat) (A : Option Addr) (ys : List OpAt) (st : LDoc) (k : Nat) (wr : World) (S' : List Nat) (D' : DLay) (sk : LDoc) : Prop where
  doc : DocIs wr B S' b sk D'
  only : Only S w wr
  sub : ∀ g ∈ S', g ∈ S ∨ w.heap.size ≤ g
  ok : sk.Ok
  restE : st.doE (ys.map OpAt.op) = sk.doE ((ys.drop k).map OpAt.op)
  restR : st.doR (ys.map OpAt.op) = sk.doR ((ys.drop k).map OpAt.op)
def DoLoop (w : World) (B : Nat) (S : List Nat) (b : Nat) (A : Option Addr) (ys : List OpAt) (st : LDoc) (i : Value) (wr : World) : Prop := ∃ k : Nat, ∃ S' D' sk, k ≤ ys.length ∧ i = .int .i64 k ∧ Hid (DoMid w B S b A ys st k wr S' D' sk)
theorem DocIs.lt {w : World} {B : Nat} {S : List Nat} {b : Nat} {st : LDoc} {D : DLay} (h : DocIs w B S b st D) : ∀ g ∈ S, B ≤ g ∧ g < w.heap.size := h.own
namespace DoMid
variable {w wr w' : World} {B b : Nat} {S S' : List Nat} {A : Option Addr} {ys : List OpAt} {st sk : LDoc} {k : Nat} {D' : DLay}
/-- The world in which the op's box has been laid. -/
theorem boxed (h : DoMid w B S b A ys st k wr S' D' sk) (o : Obj) : DocIs (wr.alloc o) B S' b sk D' := h.doc.below ((Below.refl _ _).alloc (Nat.le_refl _) o)
theorem next (h : DoMid w B S b A ys st k wr S' D' sk) (hk : k < ys.length) (o : Obj) (he : sk.applyE ys[k].op = 0) (ht : DocTo (wr.alloc o) B S' b (sk.apply ys[k].op) w') : ∃ S2 D2, DoMid w B S b A ys st (k + 1) w' S2 D2 (sk.apply ys[k].op) := by
  obtain ⟨S2, D2, h1, h2, h3⟩ := ht
  have hd := List.drop_eq_getElem_cons hk
  have hsz : wr.heap.size ≤ (wr.alloc o).heap.size := by simp
  have hs0 := h.only.size
  refine ⟨S2, D2, h1, (h.only.alloc o).trans_new h2 (fun i hi => h.sub i hi), fun g hg => ?_, LDoc.apply_ok h.ok _, ?_, ?_⟩
  · rcases h3 g hg with h4 | h4
    · exact h.sub g h4
    · exact .inr (by omega)
  · rw [h.restE, hd, List.map_cons, LDoc.doE, if_neg (by omega)]
  · rw [h.restR, hd, List.map_cons, LDoc.doR, if_neg (by omega)]
theorem stop (h : DoMid w B S b A ys st k wr S' D' sk) (hk : k < ys.length) (o : Obj) (he : sk.applyE ys[k].op ≠ 0) (ht : DocTo (wr.alloc o) B S' b sk w') : st.doE (ys.map OpAt.op) = sk.applyE ys[k].op ∧ DocTo w B S b (st.doR (ys.map OpAt.op)) w' := by
  have hd := List.drop_eq_getElem_cons hk
  have hsz : wr.heap.size ≤ (wr.alloc o).heap.size := by simp
  have hs0 := h.only.size
  refine ⟨by rw [h.restE, hd, List.map_cons, LDoc.doE, if_pos he], ?_⟩
  rw [h.restR, hd, List.map_cons, LDoc.doR, if_pos he]
  exact DocTo.back (h.only.alloc o) h.sub ht
theorem fin (h : DoMid w B S b A ys st k wr S' D' sk) (hk : ys.length ≤ k) : st.doE (ys.map OpAt.op) = 0 ∧ DocTo w B S b (st.doR (ys.map OpAt.op)) wr := by
  have hd : ys.drop k = [] := List.drop_eq_nil_of_le hk
  refine ⟨by rw [h.restE, hd]; rfl, ?_⟩
  rw [h.restR, hd]
  exact ⟨S', D', h.doc, h.only, h.sub⟩
end DoMid
def DoPost (w : World) (B : Nat) (S : List Nat) (b : Nat) (k : Int) (st : LDoc) (e : Ending) (w' : World) : Prop := e = .returned (errV k) ∧ DocTo w B S b st w'
set_option maxRecDepth 100000 in
set_option maxHeartbeats 8000000 in
theorem do_any (w : World) (B : Nat) (S : List Nat) (b : Nat) (st : LDoc) (D : DLay) (h : DocIs w B S b st D) (ok : st.Ok) (A : Option Addr) (c : Nat) (ys : List OpAt) (hr : Reads w w.heap.size 6 A ys.length (ocells ys)) (ha : 0 < ys.length → ∀ g ∈ ob A, g ∉ S)
    (hf : ∀ y ∈ ys, OpFar w S y) (hl : ys.length ≤ 1000000) :
    Calls Try.prog 18 #[.pointer (some ⟨b, 0, none⟩), .slice A ys.length c] w (DoPost w B S b (st.doE (ys.map OpAt.op)) (st.doR (ys.map OpAt.op))) := by
  have HR := Lib.hid hr
  have HA := Lib.hid ha
  have HF := Lib.hid hf
  have HM0 : Hid (DoMid w B S b A ys st 0 w S D st) := ⟨h, Only.refl _ _, fun g hg => .inl hg, ok, rfl, rfl⟩
  clear hr ha hf h ok
  go_enter Try.func18, Try.ntmps18
  go_wp2_with fail
  go_loopw [11] (fun i wr => DoLoop w B S b A ys st i wr) (fun i _ => ys.length - (intOf i).toNat)
  case atStart => exact ⟨0, _, _, _, Nat.zero_le _, rfl, HM0.out⟩
  case round =>
    obtain ⟨k, S', D', sk, hk, rfl, HM⟩ := hrel
    have k0 : (0 : Int) ≤ (k : Int) := by omega
    by_cases hlt : k < ys.length
    · have k1 : (k : Int) < (ys.length : Int) := by omega
      have hro := Reads.only HR.out HM.out.only HA.out
      obtain ⟨ad, rfl, hab, d0, d1, d2, d3, d4, d5⟩ := hro.op hlt
      obtain ⟨f1, f2, f3⟩ := HF.out _ (List.getElem_mem hlt)
      have f1' := Reads.only f1 HM.out.only f3
      have hfar : 0 < ys[k].op.seen.length → ∀ g ∈ ob ys[k].at_, g ∉ S' := fun hn g hg hm => by
        rcases HM.out.sub g hm with h4 | h4
        · exact f3 hn g hg h4
        · obtain ⟨ad', e, hb, _⟩ := f1.2 hn
          rw [e] at hg; simp [ob] at hg; omega
      have HAP : Hid (∀ o : Obj, Calls Try.prog 12 #[.pointer (some ⟨b, 0, none⟩), ys[k].op.val ys[k].at_ ys[k].cap] (wr.alloc o) (ApplyPost (wr.alloc o) B S' b (sk.applyB ys[k].op) (sk.applyE ys[k].op) (sk.apply ys[k].op))) := fun o =>
        apply_doc (wr.alloc o) B S' b sk D' (HM.out.boxed o) HM.out.ok ys[k].op ys[k].at_ ys[k].cap f2 ((f1'.alloc (Nat.le_refl _) o).more (by simp)) hfar
      have HNX : Hid (∀ (he : sk.applyE ys[k].op = 0) (o : Obj) (w' : World), DocTo (wr.alloc o) B S' b (sk.apply ys[k].op) w' → ∃ S2 D2, DoMid w B S b (some ad) ys st (k + 1) w' S2 D2 (sk.apply ys[k].op)) := fun he o w' ht => HM.out.next hlt o he ht
      have HST : Hid (∀ (he : sk.applyE ys[k].op ≠ 0) (o : Obj) (w' : World), DocTo (wr.alloc o) B S' b sk w' → st.doE (ys.map OpAt.op) = sk.applyE ys[k].op ∧ DocTo w B S b (st.doR (ys.map OpAt.op)) w') := fun he o w' ht => HM.out.stop hlt o he ht
      have HBAD := Lib.hid (fun he : sk.applyE ys[k].op ≠ 0 => LDoc.applyE_bad (d := sk) (o := ys[k].op) rfl he)
      clear f1 f1' f2 f3 hfar hro hab
      generalize ys[k] = y at *
      have HE0 : errV 0 = .nilIface := rfl
      by_cases he : sk.applyE y.op = 0
      · have HNY := Lib.hid (HNX.out he)
        rw [he] at HAP
        clear HST HBAD he HNX
        generalize sk.apply y.op = sk2 at *
        generalize sk.applyB y.op = bb at *
        obtain ⟨⟨⟨who, n⟩, what, p, letter, seen⟩, ya, yc⟩ := y
        unfold LOp.val at HAP
        simp only at d0 d1 d2 d3 d4 d5 HAP
        go_wp2_with fail
        refine (HAP.out _).mono ?_
        rintro e w2 ⟨rfl, ht⟩
        have HN2 := Lib.hid (HNY.out _ _ ht)
        rw [HE0]
        clear ht HNY HAP
        go_wp2_with fail
        go_roundw
        case rel =>
          obtain ⟨S2, D2, hfin⟩ := HN2.out
          exact ⟨k + 1, S2, D2, sk2, by omega, by go_num, hfin⟩
        case measure => simp [intOf]; omega
      · obtain ⟨_, hb, hs⟩ := HBAD.out he
        have HSU := Lib.hid (HST.out he)
        have HV := Lib.hid (errV_ne he)
        rw [hb, hs] at HAP
        clear HNX HBAD he hb hs HST
        generalize sk.applyE y.op = ke at *
        obtain ⟨⟨⟨who, n⟩, what, p, letter, seen⟩, ya, yc⟩ := y
        unfold LOp.val at HAP
        simp only at d0 d1 d2 d3 d4 d5 HAP
        go_wp2_with fail
        refine (HAP.out _).mono ?_
        rintro e w2 ⟨rfl, ht⟩
        have HN2 := Lib.hid (HSU.out _ _ ht)
        rw [HV.out]
        clear ht HSU HAP
        go_wp2_with fail
        go_ret
        obtain ⟨n1, n2⟩ := HN2.out
        exact ⟨by rw [n1, HV.out]; rfl, n2⟩
    · have k1 : ¬ (k : Int) < (ys.length : Int) := by omega
      obtain ⟨f1, f2⟩ := HM.out.fin (by omega)
      have F1 := Lib.hid f1
      have F2 := Lib.hid f2
      clear f1 f2
      go_wp2_with fail
      go_ret
      exact ⟨by rw [F1.out]; rfl, F2.out⟩
end Go.Proofs.Ytobdollnkndmeaa
/- edit.Insert, walked. Conditions: the document is right; the numbers are of 64 bits. -/
namespace Go.Proofs.Ytobdollnkndmeaa
open Go.RowKit
set_option linter.unusedVariables false
/-- Ops, of the call's own, and an error. -/
def EditPost (w : World) (k : Int) (l : List LOp) (e : Ending) (w' : World) : Prop :=
  ∃ V c ys, e = .returned (.tuple #[.slice V ys.length c, errV k]) ∧ ys.map OpAt.op = l ∧ OwnOps w' w.heap.size V c ys ∧ Below w.heap.size w w'
theorem edit_bad {w w' : World} {k : Int} (hb : Below w.heap.size w w') : EditPost w k [] (.returned (.tuple #[.slice none 0 0, errV k])) w' := ⟨none, 0, [], rfl, rfl, ⟨Own.nil _ _ _ _, by simp⟩, hb⟩
set_option maxRecDepth 100000 in
set_option maxHeartbeats 4000000 in
theorem insert_any (w : World) (B : Nat) (S : List Nat) (b : Nat) (st : LDoc) (D : DLay) (h : DocIs w B S b st D) (ok : st.Ok) (who off : Int) (text : ByteArray) (hw0 : -9223372036854775808 ≤ who) (hw1 : who ≤ 9223372036854775807) (ho : off ≤ 9223372036854775807) (ht : text.size ≤ 9223372036854775807) :
    Calls Try.prog 17 #[.pointer (some ⟨b, 0, none⟩), .int .i64 who, .int .i64 off, .string text] w (EditPost w (st.insE who off text) (st.insR who off text)) := by
  have HN := Lib.hid (newMk_any w B S b st D h ok who hw0 hw1)
  have HD := Lib.hid h
  have HOK := Lib.hid ok
  have HE0 : errV 0 = .nilIface := rfl
  have HE1 := errV_ne (show (1 : Int) ≠ 0 by decide)
  clear h ok
  by_cases hw : LDoc.whoE who = 0
  · have HN : Hid (Calls Try.prog 46 #[.pointer (some ⟨b, 0, none⟩), .int .i64 who] w fun e w' => ∃ b, e = .returned (.tuple #[.pointer (some ⟨b, 0, none⟩), .nilIface]) ∧ MkIs w' w.heap.size b (st.maker who) none 0 [] ∧ Below w.heap.size w w') :=
      HN.out.mono fun e w' hh => by
        rcases hh with ⟨_, h1⟩ | ⟨h1, _⟩
        · exact h1
        · exact absurd hw h1
    have HIE : Hid (st.insE who off text = ((st.maker who).ins st.book off text).2) := by show _ = _; unfold LDoc.insE; rw [if_neg (by omega)]
    have HIR : Hid (st.insR who off text = if ((st.maker who).ins st.book off text).2 = 0 then ((st.maker who).ins st.book off text).1.ops else []) := by show _ = _; unfold LDoc.insR; rw [HIE.out]
    have hmn : 0 ≤ (st.maker who).n ∧ (st.maker who).n ≤ 9999 := by
      obtain ⟨k, hk, _, e, h1, h2⟩ := nOf_known HOK.out.known hw
      exact ⟨by rw [e] at h1; exact h1, by rw [e] at h2; exact h2⟩
    have hmo : (st.maker who).ops.length = 0 := rfl
    clear hw
    generalize hr : (st.maker who).ins st.book off text = r at *
    obtain ⟨m', k⟩ := r
    simp only at HIE HIR
    have HRR := Lib.hid hr
    clear hr
    have hmn0 := hmn.1
    have hmn1 := hmn.2
    clear hmn
    generalize st.maker who = m at *
    rw [HIE.out, HIR.out]
    clear HIE HIR
    generalize hres : (if k = 0 then m'.ops else []) = res
    have HRES := Lib.hid hres
    clear hres
    go_enter Try.func17, Try.ntmps17
    go_wp2_with fail
    refine HN.out.mono ?_
    rintro e w1 ⟨bm, rfl, hm, hb⟩
    have HM := Lib.hid hm
    have HB1 := Lib.hid hb
    have HBK := Lib.hid (book_doc w1 _ _ _ _ _ (HD.out.below hb) HOK.out)
    clear hm hb HN
    go_wp2_with fail
    refine HBK.out.mono ?_
    rintro e w2 ⟨V, c, rfl, hO, hb⟩
    have HB2 := Lib.hid (HB1.out.trans (hb.mono HB1.out.size))
    have HM2 := Lib.hid (HM.out.below hb)
    have hs2 := HB2.out.size
    have HI : Hid (Calls Try.prog 48 #[.pointer (some ⟨bm, 0, none⟩), .slice V st.book.length c, .int .i64 off, .string text] w2 fun e w' => e = .returned (errV k) ∧ MkTo w2 w.heap.size bm none m' w') := by
      have := mkIns_any w2 w.heap.size bm m none 0 [] HM2.out hs2 V c st.book hO.reads HOK.out.book off ho text ht hmn0 (by omega) (by omega)
      rw [HRR.out] at this
      exact this
    obtain ⟨ev, hev⟩ : ∃ ev, ev = errV k := ⟨_, rfl⟩
    rw [← hev] at HI
    have HEV := Lib.hid hev
    clear hO hb HBK HM hev
    go_wp2_with fail
    refine HI.out.mono ?_
    rintro e w3 ⟨rfl, ht3⟩
    have HB3 := Lib.hid (HB2.out.trans (MkTo.below HM2.out ht3 (Nat.le_refl _) hs2))
    obtain ⟨V', c', ys', hm3, _, _⟩ := ht3
    have HM3 := Lib.hid hm3
    have HDN := Lib.hid (mkDone_any w3 _ _ _ _ _ _ hm3 k)
    rw [← HEV.out] at HDN
    clear hm3 HI
    go_wp2_with fail
    refine HDN.out.mono ?_
    rintro e w4 ⟨rfl, rfl⟩
    have HF : Hid (∃ V2 c2 ys2, (if k = 0 then Value.slice V' ys'.length c' else .slice none 0 0) = .slice V2 ys2.length c2 ∧ ys2.map OpAt.op = (if k = 0 then m'.ops else []) ∧ OwnOps w4 w.heap.size V2 c2 ys2) := by
      by_cases hk : k = 0
      · rw [if_pos hk, if_pos hk]; exact ⟨_, _, _, rfl, HM3.out.same, HM3.out.ops⟩
      · rw [if_neg hk, if_neg hk]; exact ⟨none, 0, [], rfl, rfl, ⟨Own.nil _ _ _ _, by simp⟩⟩
    obtain ⟨V2, c2, ys2, f1, f2, f3⟩ := HF.out
    rw [f1]
    have F2 := Lib.hid f2
    have F3 := Lib.hid f3
    clear HF f1 f2 f3 HDN
    go_wp2_with fail
    go_ret2
    exact ⟨V2, c2, ys2, by rw [← HEV.out]; rfl, by rw [← HRES.out]; exact F2.out, F3.out, HB3.out⟩
  · have HN : Hid (Calls Try.prog 46 #[.pointer (some ⟨b, 0, none⟩), .int .i64 who] w fun e w' => e = .returned (.tuple #[.pointer none, errV 1]) ∧ Below w.heap.size w w') :=
      HN.out.mono fun e w' hh => by
        rcases hh with ⟨h1, _⟩ | ⟨_, h1⟩
        · exact absurd h1 hw
        · exact h1
    have HIE : Hid (st.insE who off text = 1) := if_pos hw
    have HIR : Hid (st.insR who off text = []) := by show _ = _; unfold LDoc.insR; rw [HIE.out, if_neg (by decide)]
    rw [HIE.out, HIR.out]
    rw [HE1] at HN
    clear hw HIE HIR
    go_enter Try.func17, Try.ntmps17
    go_wp2_with fail
    refine HN.out.mono ?_
    rintro e w1 ⟨rfl, hb⟩
    have HB1 := Lib.hid hb
    clear hb
    go_wp2_with fail
    go_ret2
    have := edit_bad (k := 1) HB1.out
    rw [HE1] at this
    exact this
end Go.Proofs.Ytobdollnkndmeaa
/- A row of ops is applied to a document, whatever comes of it: the round of such a loop. Plain, and by the contract of Apply. Conditions: the ops can be read. -/
namespace Go.Proofs.Ytobdollnkndmeaa
open Go.RowKit
set_option linter.unusedVariables false
/-- A document of the call's own to which at most n ops were applied. -/
def DocAt (w : World) (B b n : Nat) (wr : World) : Prop := ∃ st S D, DocIs wr B S b st D ∧ st.Ok ∧ Says st.ops st ∧ Numbered st.ops ∧ st.ops.length ≤ n ∧ Below w.heap.size w wr
def DocLoop (w : World) (B b : Nat) (i : Value) (wr : World) : Prop := ∃ k : Nat, k ≤ 60 ∧ i = .int .i64 k ∧ Hid (DocAt w B b k wr)
theorem DocAt.new {w w' : World} {B b : Nat} {S : List Nat} {D : DLay} (h : DocIs w' B S b LDoc.new D) (hb : Below w.heap.size w w') (n : Nat) : DocAt w B b n w' := ⟨_, S, D, h, LDoc.new_ok, Says.new, Numbered.nil, Nat.zero_le _, hb⟩
theorem DocAt.more {w wr : World} {B b n m : Nat} (h : DocAt w B b n wr) (hm : n ≤ m) : DocAt w B b m wr := by
  obtain ⟨st, S, D, h1, h2, h3, h4, h5, h6⟩ := h
  exact ⟨st, S, D, h1, h2, h3, h4, by omega, h6⟩
theorem DocAt.round {w wr : World} {B b n : Nat} (h : DocAt w B b n wr) (hB : w.heap.size ≤ B) {A : Option Addr} {ys : List OpAt} (hr : Reads w w.heap.size 6 A ys.length (ocells ys)) (hg : ∀ y ∈ ys, y.Good w) {k : Nat} (hk : k < ys.length) :
    ∃ ad who nn what p letter seen ya yc, A = some ad ∧ wr.cell? (ad.add (k * 6)) = some (.int .i64 who) ∧ wr.cell? ⟨(ad.add (k * 6)).block, (ad.add (k * 6)).off + 1, none⟩ = some (.int .i64 nn) ∧ wr.cell? ⟨(ad.add (k * 6)).block, (ad.add (k * 6)).off + 2, none⟩ = some (.int .i64 what) ∧
      wr.cell? ⟨(ad.add (k * 6)).block, (ad.add (k * 6)).off + 3, none⟩ = some (.string p) ∧ wr.cell? ⟨(ad.add (k * 6)).block, (ad.add (k * 6)).off + 4, none⟩ = some (.int .i64 letter) ∧ wr.cell? ⟨(ad.add (k * 6)).block, (ad.add (k * 6)).off + 5, none⟩ = some (.slice ya seen yc) ∧
      Calls Try.prog 12 #[.pointer (some ⟨b, 0, none⟩), .agg #[.int .i64 who, .int .i64 nn, .int .i64 what, .string p, .int .i64 letter, .slice ya seen yc]] wr (fun e w' => (∃ (is : Bool) (ke : Int), e = .returned (.tuple #[.bool is, errV ke])) ∧ DocAt w B b (n + 1) w') := by
  obtain ⟨st, S, D, hd, hok, hs, hn, hl, hbw⟩ := h
  obtain ⟨ad, rfl, hab, c0', c1', c2', c3', c4', c5'⟩ := ((hr.below hbw).more hbw.size).op hk
  have hgood := (hg _ (List.getElem_mem hk)).below hbw
  have hps := hgood.2.1
  have hfar : 0 < ys[k].op.seen.length → ∀ g ∈ ob ys[k].at_, g ∉ S := (hg _ (List.getElem_mem hk)).1.far (fun g hg => by have := (hd.own g hg).1; omega)
  have HA := apply_doc wr _ _ _ _ _ hd hok ys[k].op ys[k].at_ ys[k].cap (by unfold maxLen at hps; omega) hgood.1 hfar
  refine ⟨ad, _, _, _, _, _, _, _, _, rfl, c0', c1', c2', c3', c4', c5', HA.mono ?_⟩
  rintro e w' ⟨rfl, S', D', h1, h2, h3⟩
  refine ⟨⟨_, _, rfl⟩, _, S', D', h1, LDoc.apply_ok hok _, LDoc.apply_says hok hs _, LDoc.apply_numbered hok hs hn _, ?_, hbw.trans (h2.below hbw.size (fun g hg => by have := (hd.own g hg).1; omega))⟩
  rcases LDoc.apply_three (d := st) ys[k].op with ⟨_, _, q⟩ | ⟨_, _, q⟩ | ⟨_, _, q⟩
  · rw [q]; simp; omega
  · rw [q]; omega
  · rw [q]; omega
/-- What came of the ops is far from older rows: they read as before. -/
theorem DocAt.below {w wr : World} {B b n : Nat} (h : DocAt w B b n wr) : Below w.heap.size w wr := by
  obtain ⟨st, S, D, h1, h2, h3, h4, h5, h6⟩ := h
  exact h6
end Go.Proofs.Ytobdollnkndmeaa
/- A closed fact that many laws begin with: what is typed into a new document; and ops that a call has laid lie apart from a document. Conditions: none. -/
namespace Go.Proofs.Ytobdollnkndmeaa
open Go.RowKit
set_option linter.unusedVariables false
theorem sized_ok {l : List LLeaf} (h : BookOk l) : Sized l := fun x hx => by have := place_small (h.leafs x hx).place; omega
theorem ops_apart {w1 w2 : World} {B N b : Nat} {S : List Nat} {st : LDoc} {D : DLay} (h : DocIs w1 B S b st D) (hN : w1.heap.size ≤ N) {V : Option Addr} {c : Nat} {ys : List OpAt} (ho : OwnOps w2 N V c ys) (hp : ∀ o ∈ ys.map OpAt.op, o.place.size ≤ 12) :
    (0 < ys.length → ∀ g ∈ ob V, g ∉ S) ∧ ∀ y ∈ ys, OpFar w2 S y := by
  refine ⟨fun _ g hg hm => ?_, fun y hy => ⟨(ho.seen y hy).reads, ?_, fun _ g hg hm => ?_⟩⟩
  · have := (ho.row.lt g hg).1; have := (h.own g hm).2; omega
  · have := hp y.op (List.mem_map.2 ⟨y, hy, rfl⟩); omega
  · have := ((ho.seen y hy).lt g hg).1; have := (h.own g hm).2; omega
/-- edit.Do of ops that edit.Insert has made, on the same document. -/
theorem do_ins {w7 w8 : World} {B b : Nat} {S : List Nat} {st : LDoc} {D : DLay} (h : DocIs w7 B S b st D) (ok : st.Ok) {who off : Int} {text : ByteArray} {V : Option Addr} {c : Nat} {zs : List OpAt} (hz : zs.map OpAt.op = st.insR who off text) (ho : OwnOps w8 w7.heap.size V c zs) (hb : Below w7.heap.size w7 w8) :
    Calls Try.prog 18 #[.pointer (some ⟨b, 0, none⟩), .slice V zs.length c] w8 (fun e w' => e = .returned (errV (st.doE (st.insR who off text))) ∧ DocTo w8 B S b (st.doR (st.insR who off text)) w') := by
  obtain ⟨a1, a2⟩ := ops_apart h (Nat.le_refl _) ho (by rw [hz]; exact insR_small)
  have hl : zs.length ≤ 200 := by have := insR_len (d := st) (who := who) (off := off) (text := text); rw [← hz, List.length_map] at this; exact this
  have := do_any w8 B S b st D (h.below hb) ok V c zs ho.row.reads a1 a2 (by omega)
  rw [hz] at this
  exact this
def hiT : ByteArray := ⟨#[104, 105]⟩
def hiDoc : LDoc := LDoc.new.doR (LDoc.new.insR 1 0 hiT)
theorem hi_ins : LDoc.new.insE 1 0 hiT = 0 := by decide +kernel
theorem hi_do : LDoc.new.doE (LDoc.new.insR 1 0 hiT) = 0 := by decide +kernel
theorem hi_text : textOf hiDoc.book = hiT := by decide +kernel
theorem hi_ok : hiDoc.Ok := LDoc.doR_ok _ LDoc.new_ok
end Go.Proofs.Ytobdollnkndmeaa
/- From a walk to a given statement: one theorem that serves every law of the seat. Conditions: none of our own. -/
namespace Go.Proofs.Ytobdollnkndmeaa
open Go.RowKit Go.WideShapes Go.ChangeShapes Go.ChangeAt
set_option linter.unusedVariables false

section
variable {H : Type} {enc : TypeId × Value → H} {P : Program}

theorem post_of_below {f : Func} {s : ChangeSpec} {apart fresh handsOn again : Bool} {W W' : World} {args : Array Value} {v : Value} {ds gs : List (DataW H)} {before pa pv : List MemPlace}
    (hW : DataW.Whole enc P f.params.toList s.vars apart W args.toList ds gs before)
    (hres : ∀ (b : Nat) (sp : Nat → Bool) (hd : Bool), DataW.TrodAll enc P W' b sp hd f.resultTypes.toList (v.resultList f.resultTypes.size) (s.fn H (ds ++ gs)).results [])
    (hargs : ∀ sp : Nat → Bool, (∀ p ∈ before, sp p.block = true) → DataW.TrodAll enc P W' 0 sp true f.params.toList args.toList (s.fn H (ds ++ gs)).args pa)
    (hvars : ∀ sp : Nat → Bool, (∀ p ∈ before, sp p.block = true) → DataW.TrodVars enc P W' sp s.vars (s.fn H (ds ++ gs)).vars pv)
    (hps : before = pa ++ pv) (hb : Below W.heap.size W W')
    (hok : ∀ (j : Nat) (t : TypeId) (r : Value), f.resultTypes[j]? = some t → (v.resultList f.resultTypes.size)[j]? = some r → Value.okWide P W' .any 0 t r) :
    s.post enc P f apart fresh handsOn again W args v W' := by
  have hlt : ∀ p ∈ before, p.block < W.heap.size := fun p hp => hW.lt p hp
  have hold : ∀ p ∈ before, (fun b => decide (b < W.heap.size)) p.block = true := fun p hp => by simpa using hlt p hp
  refine ⟨ds, gs, before, [], pa, pv, hW, hres _ _ _, hargs _ hold, hvars _ hold, World.keptBut_mono (fun p hp => ⟨hp, ?_⟩) (hb.frame (· ∈ before)), fun _ => ?_⟩
  · rw [hps, List.mem_append] at hp
    exact Or.inr hp
  · obtain ⟨_, _, _, _, _, hz, hn⟩ := hW
    refine ⟨hok, _, _, ([] ++ pa) ++ pv, ⟨[] ++ pa, pv, trodAll_append (hargs _ (fun _ _ => rfl)) (hres _ _ _), hvars _ (fun _ _ => rfl), rfl, ?_, ?_⟩, ?_⟩
    · intro b off hp
      have hin : MemPlace.cell b off ∈ before := by rw [hps]; simpa using hp
      rw [hb.frozen (hlt _ hin)]
      exact hz b off hin
    · intro ha
      have := hn ha
      rw [hps] at this
      simpa using this
    · intro p hp _
      rw [hps]
      simpa using hp

theorem trodAll_below (hl : laidOutB P = true) {W W' : World} (hb : Below W.heap.size W W') {sp : Nat → Bool} :
    ∀ (ts : List TypeId) (vs : List Value) (ds : List (DataW H)) (ps : List MemPlace), (∀ t ∈ ts, P.readableRec t = true ∧ t < P.types.size) → (∀ p ∈ ps, p.block < W.heap.size) → (∀ p ∈ ps, sp p.block = true) →
      DataW.TrodAll enc P W 0 (fun _ => true) true ts vs ds ps → DataW.TrodAll enc P W' 0 sp true ts vs ds ps := by
  intro ts
  induction ts with
  | nil => intro vs ds ps _ _ _ h; cases vs <;> cases ds <;> simp_all [DataW.TrodAll]
  | cons t ts ih =>
    intro vs ds ps ht hlt hs h
    cases vs with
    | nil => simp [DataW.TrodAll] at h
    | cons v vs =>
      cases ds with
      | nil => simp [DataW.TrodAll] at h
      | cons d ds =>
        obtain ⟨p, q, h1, h2, rfl⟩ := h
        exact ⟨p, q, WideElems.Trod_stays hl (ht t (by simp)).1 (ht t (by simp)).2 h1 (fun x hx => hb.same (hlt x (by simp [hx]))) (fun x hx => hs x (by simp [hx])),
          ih vs ds q (fun t' h' => ht t' (by simp [h'])) (fun x hx => hlt x (by simp [hx])) (fun x hx => hs x (by simp [hx])) h2, rfl⟩

/-- A law: it answered true, and nothing that was there has turned. -/
theorem law_post (hl : laidOutB P = true) {f : Func} {s : ChangeSpec} {apart fresh handsOn again : Bool} {tb : TypeId} {W W' : World} {args : Array Value} {ds gs : List (DataW H)} {before : List MemPlace}
    (hr : f.resultTypes = #[tb]) (htb : P.underlying tb = some .bool) (hp : ∀ t ∈ f.params.toList, P.readableRec t = true ∧ t < P.types.size) (hv : s.vars = [])
    (hfn : s.fn H ds = { results := [.lit (.bool true)], args := ds })
    (hW : DataW.Whole enc P f.params.toList s.vars apart W args.toList ds gs before) (hb : Below W.heap.size W W') :
    s.post enc P f apart fresh handsOn again W args (.bool true) W' := by
  have hW' := hW
  obtain ⟨p, q, hA, hV, hpq, hfz, hnd⟩ := hW
  have hlt : ∀ x ∈ before, x.block < W.heap.size := fun x hx => hW'.lt x hx
  rw [hv] at hV
  obtain ⟨hgs, hq⟩ := trodVars_none hV
  subst hgs; subst hq
  simp only [List.append_nil] at hpq
  subst hpq
  refine post_of_below (pa := before) (pv := []) hW' ?_ ?_ ?_ (by simp) hb ?_
  · intro b sp hd
    rw [List.append_nil, hfn, hr]
    exact trodAll_mk1 (shut_bool htb _)
  · intro sp hs
    rw [List.append_nil, hfn]
    exact trodAll_below hl hb _ _ _ _ hp hlt hs hA
  · intro sp hs
    rw [List.append_nil, hfn, hv]
    exact rfl
  · exact ok_one hr rfl (okWide_bool_mk htb _)
end

theorem Try.own : ownKnob Try.prog.godebug = none := by kernel_rfl
theorem Try.laidOut : laidOutB Try.prog = true := by kernel_rfl
end Go.Proofs.Ytobdollnkndmeaa
/- The document's Place, Letter, Seen, walked. Conditions: a text that an int may count. -/
namespace Go.Proofs.Ytobdollnkndmeaa
open Go.RowKit
set_option linter.unusedVariables false
set_option maxRecDepth 100000 in
theorem rseen_any (w : World) (x : LLeaf) : Calls Try.prog 23 #[.agg #[.string x.place, .int .i64 x.letter, .bool x.struck]] w (CheckPost w (.bool (seenB x))) := by
  obtain ⟨p, n, s⟩ := x
  by_cases h : n = 0
  · have hb : (n != 0) = false := by simp [h]
    have HS : Hid (seenB ⟨p, n, s⟩ = false) := by show _ = _; unfold seenB; rw [hb]; rfl
    clear h
    go_enter Try.func23, Try.ntmps23
    go_wp2_with fail
    go_ret
    exact ⟨by rw [HS.out]; rfl, (Below.refl _ _).alloc (Nat.le_refl _) _⟩
  · have hb : (n != 0) = true := by simp [h]
    have HS : Hid (seenB ⟨p, n, s⟩ = !s) := by show _ = _; unfold seenB; rw [hb]; rfl
    clear h
    go_enter Try.func23, Try.ntmps23
    go_wp2_with fail
    go_ret
    exact ⟨by rw [HS.out]; rfl, (Below.refl _ _).alloc (Nat.le_refl _) _⟩
end Go.Proofs.Ytobdollnkndmeaa
/- leaflaw4.StatOne, proved: a book that one author wrote is one run of it. Conditions: none of our own. -/
namespace Go.Proofs.Ytobdollnkndmeaa
open Go.RowKit Go.WideShapes Go.ChangeShapes Go.ChangeAt
set_option linter.unusedVariables false
namespace lawStatOne
set_option maxRecDepth 100000 in
set_option maxHeartbeats 8000000 in
theorem walk (w : World) (text : ByteArray) (who : Int) (ht : text.size ≤ 9223372036854775807) (hw0 : -9223372036854775808 ≤ who) (hw1 : who ≤ 9223372036854775807) :
    Calls Try.prog 6 #[.string text, .int .i64 who] w (CheckPost w (.bool true)) := by
  have HE0 : errV 0 = .nilIface := rfl
  have HN := Lib.hid (new_doc w)
  go_enter Try.func6, Try.ntmps6
  go_wp2_with fail
  refine HN.out.mono ?_
  rintro e w1 ⟨b1, S1, D1, rfl, hd1, hb1⟩
  have HD1 := Lib.hid hd1
  have HB1 := Lib.hid hb1
  have HI := Lib.hid (insert_any w1 _ _ _ _ _ hd1 LDoc.new_ok who 0 text hw0 hw1 (by decide) ht)
  clear hd1 hb1 HN
  go_wp2_with fail
  refine HI.out.mono ?_
  rintro e w2 ⟨V2, c2, zs, rfl, hz1, hz2, hb2⟩
  have HDO := Lib.hid (do_ins HD1.out LDoc.new_ok hz1 hz2 hb2)
  have HB2 := Lib.hid (HB1.out.trans (hb2.mono HB1.out.size))
  have HS1 : Hid (∀ g ∈ S1, w.heap.size ≤ g) := fun g hg => (HD1.out.own g hg).1
  clear hz1 hz2 hb2 HI HD1 HB1
  by_cases hie : LDoc.new.insE who 0 text = 0
  · rw [hie, HE0]
    by_cases hde : LDoc.new.doE (LDoc.new.insR who 0 text) = 0
    · obtain ⟨p1, p2, p3, p4, p5, p6⟩ := one_plain hie hde
      have OK := Lib.hid (LDoc.doR_ok (LDoc.new.insR who 0 text) LDoc.new_ok)
      rw [hde] at HDO
      generalize LDoc.new.doR (LDoc.new.insR who 0 text) = st at *
      clear hie hde
      have P5 := Lib.hid p5
      have P6 := Lib.hid p6
      have P4 := Lib.hid p4
      clear p4 p5 p6
      go_wp2_with fail
      refine HDO.out.mono ?_
      rintro e w3 ⟨rfl, S3, D3, hd3, ho3, hs3⟩
      rw [HE0]
      have HD := Lib.hid hd3
      have HB3 := Lib.hid (HB2.out.trans (ho3.below HB2.out.size HS1.out))
      have HBK := Lib.hid (book_doc w3 _ _ _ _ _ hd3 OK.out)
      clear hd3 ho3 hs3 HDO HB2
      go_wp2_with fail
      refine HBK.out.mono ?_
      rintro e w4 ⟨V, c, rfl, hO, hb⟩
      have HC := Lib.hid (written_any w4 V c st.book hO.reads OK.out.book)
      have HD := Lib.hid (HD.out.below hb)
      have HB4 := Lib.hid (HB3.out.trans (hb.mono HB3.out.size))
      clear hO hb HBK HB3
      go_wp2_with fail
      refine HC.out.mono ?_
      rintro e w5 ⟨VW, cw, rfl, hO, hb⟩
      have HOW := Lib.hid hO
      have HD := Lib.hid (HD.out.below hb)
      have HB5 := Lib.hid (HB4.out.trans (hb.mono HB4.out.size))
      have HBK := Lib.hid (book_doc w5 _ _ _ _ _ HD.out OK.out)
      clear hO hb HC HB4
      go_wp2_with fail
      refine HBK.out.mono ?_
      rintro e w6 ⟨V, c, rfl, hO, hb⟩
      have HC := Lib.hid (runs_any w6 V c st.book hO.reads OK.out.book)
      have HD := Lib.hid (HD.out.below hb)
      have HOW := Lib.hid (HOW.out.below hb)
      have HB6 := Lib.hid (HB5.out.trans (hb.mono HB5.out.size))
      unfold RunsPost at HC
      clear hO hb HBK HB5
      obtain ⟨k, rfl⟩ : ∃ k : Nat, who = (k : Int) + 1 := ⟨(who - 1).toNat, by omega⟩
      have hk8 : k < 8 := by omega
      have k0 : (0 : Int) ≤ (k : Int) := by omega
      have k1 : (k : Int) < 8 := by omega
      have q1 : IntKind.i64.wrap ((k : Int) + 1 - 1) = (k : Int) := by rw [IntWalk.i64_in _ (by omega)]; omega
      by_cases hs0 : text.size = 0
      · have hr : runsOf st.book = [] := by rw [P6.out, if_pos hs0]
        rw [hr] at HC HOW
        have he : text.toList.isEmpty = true := isEmpty_of hs0
        have hz : (text.size : Int) = 0 := by omega
        have hkl : k < (writtenOf []).length := by rw [writtenOf_len]; exact hk8
        have hu := written_none k hkl
        obtain ⟨gw, rfl, _, _⟩ := HOW.out.head (by omega)
        have HA0 : Hid (∀ W, Below w6.heap.size w6 W → W.cell? ⟨gw, k, none⟩ = some (.int .i64 0)) := fun W hW => by
          have := (HOW.out.below hW).cellAt (j := k) (by omega)
          rw [this, ints_at hkl, hu]
        clear hr hu hkl HOW
        go_wp2_with fail
        refine HC.out.mono ?_
        rintro e w7 ⟨VR, cr, rfl, hO, hb⟩
        have a0 := HA0.out _ hb
        have HB7 := Lib.hid (HB6.out.trans (hb.mono HB6.out.size))
        clear hb hO HC
        go_wp2_with fail
        go_ret
        exact ⟨by simp, HB7.out⟩
      · have hr : runsOf st.book = [((k : Int) + 1, (text.size : Int))] := by rw [P6.out, if_neg hs0]
        rw [hr] at HC HOW
        have he : text.toList.isEmpty = false := isEmpty_not hs0
        obtain ⟨k', hk', hkl, hu⟩ := written_one (who := (k : Int) + 1) (n := (text.size : Int)) (by omega) (by omega)
        obtain rfl : k' = k := by omega
        obtain ⟨gw, rfl, _, _⟩ := HOW.out.head (by omega)
        have HA0 : Hid (∀ W, Below w6.heap.size w6 W → W.cell? ⟨gw, k', none⟩ = some (.int .i64 (text.size : Int))) := fun W hW => by
          have := (HOW.out.below hW).cellAt (j := k') (by omega)
          rw [this, ints_at hkl, hu]
        clear hr hu hkl HOW hk'
        go_wp2_with fail
        refine HC.out.mono ?_
        rintro e w7 ⟨VR, cr, rfl, hO, hb⟩
        have a0 := HA0.out _ hb
        have HB7 := Lib.hid (HB6.out.trans (hb.mono HB6.out.size))
        have HD := Lib.hid (HD.out.below hb)
        have HBK := Lib.hid (book_doc w7 _ _ _ _ _ HD.out OK.out)
        obtain ⟨gr, rfl, _, _⟩ := hO.head (by simp)
        have r0 : w7.cell? ⟨gr, 0, none⟩ = some (.int .i64 ((k' : Int) + 1)) := by rw [hO.cellAt (by simp)]; rfl
        have r1 : w7.cell? ⟨gr, 1, none⟩ = some (.int .i64 (text.size : Int)) := by rw [hO.cellAt (by simp)]; rfl
        clear hb hO HC
        have hbl : 0 < st.book.length := by have := P4.out; omega
        have hseen := P5.out _ (List.getElem_mem hbl)
        have HSN := Lib.hid hseen
        have HRS := Lib.hid (fun W x => rseen_any W x)
        go_wp2_with fail
        refine HBK.out.mono ?_
        rintro e w8 ⟨V, c, rfl, hO, hb⟩
        obtain ⟨gv, rfl, _, _⟩ := hO.head hbl
        obtain ⟨ad, hA, _, d0, d1, d2⟩ := hO.reads.leaf hbl
        obtain rfl := Option.some.inj hA
        have e0 : (⟨gv, 0, none⟩ : Addr).add (0 * 3) = ⟨gv, 0, none⟩ := rfl
        rw [e0] at d0 d1 d2
        have d0 : w8.cell? ⟨gv, 0, none⟩ = some (.string st.book[0].place) := d0
        have d1 : w8.cell? ⟨gv, 1, none⟩ = some (.int .i64 st.book[0].letter) := d1
        have d2 : w8.cell? ⟨gv, 2, none⟩ = some (.bool st.book[0].struck) := d2
        clear e0 hA
        have HB8 := Lib.hid (HB7.out.trans (hb.mono HB7.out.size))
        have hbl1 : (0 : Int) < (st.book.length : Int) := by omega
        have HR1 := Lib.hid (HRS.out w8 st.book[0])
        rw [HSN.out] at HR1
        clear hO hb HBK hseen HSN HRS
        generalize st.book[0] = x at *
        obtain ⟨p, n, sk⟩ := x
        simp only at d0 d1 d2 HR1
        go_wp2_with fail
        refine HR1.out.mono ?_
        rintro e w9 ⟨rfl, hb⟩
        have HB9 := Lib.hid (HB8.out.trans (hb.mono HB8.out.size))
        clear hb
        go_wp2_with fail
        go_ret
        exact ⟨by simp, HB9.out⟩
    · have HV := Lib.hid (errV_ne hde)
      generalize LDoc.new.doE (LDoc.new.insR who 0 text) = ke at *
      clear hde hie
      go_wp2_with fail
      refine HDO.out.mono ?_
      rintro e w9 ⟨rfl, S9, D9, hd9, ho9, hs9⟩
      rw [HV.out]
      have HB9 := Lib.hid (HB2.out.trans (ho9.below HB2.out.size HS1.out))
      clear hd9 ho9 hs9 HDO
      go_wp2_with fail
      go_ret
      exact ⟨rfl, HB9.out⟩
  · rw [errV_ne hie]
    clear hie HDO
    go_wp2_with fail
    go_ret
    exact ⟨rfl, HB2.out⟩
set_option maxRecDepth 100000 in
theorem lifted (os : Os) (started : os.Started) (H : Type) (enc : TypeId × Value → H) :
    ReturnsInHanded {} Try.checked os 6 .any (Rows.statOneSpec.pre6 enc Try.prog Try.f6 Rows.statOneRow.domain false) (Rows.statOneSpec.post enc Try.prog Try.f6 false true false false) := by
  refine returnsInHanded_of_change (C := Try.checked) Try.own started (by kernel_rfl) Try.func6
    (ChangeSpec.witness6 (enc := enc) (C := Try.checked) false ⟨#[], #[.string ⟨#[]⟩, .int .i64 1], []⟩ 8 (by kernel_rfl) (by kernel_rfl) (by kernel_rfl) (by kernel_rfl)) ?_
  intro W base args ds gs before hval0 hW _ _
  have hval : ∀ (j : Nat) t v, Try.f6.params[j]? = some t → args[j]? = some v → Value.okWide Try.prog W .any base t v := hval0
  obtain ⟨p, q, hA0, _⟩ := id hW
  have hA : DataW.TrodAll enc Try.prog W 0 (fun _ => true) true Try.f6.params.toList args.toList ds p := hA0
  rw [Try.params6] at hA hval
  obtain ⟨v0, v1, d0, d1, p0, p1, rfl, rfl, rfl, h0, h1⟩ := trodAll_two hA
  obtain ⟨a0, rfl, rfl, rfl, wa0⟩ := Go.ChangeMaps.open_string Try.underlying9 (hval 0 9 v0 rfl rfl) h0
  obtain ⟨a1, rfl, rfl, rfl, wa1⟩ := open_int Try.underlying3 (hval 1 3 v1 rfl rfl) h1
  refine (walk W a0 a1 (by unfold maxLen at wa0; exact wa0) (i64_of_wf wa1).1 (i64_of_wf wa1).2).mono fun e W' ⟨he, hb⟩ => ⟨_, he, ?_⟩
  exact law_post Try.laidOut (tb := 4) (by kernel_rfl) Try.underlying4 (by rw [Try.params6]; simp only [List.mem_cons, List.not_mem_nil, or_false]; rintro t (rfl | rfl) <;> exact ⟨by kernel_rfl, of_decide_eq_true (by kernel_rfl)⟩) rfl rfl hW hb

theorem holds : Rows.StatOneSaid :=
  OpenClaim.holds_of_wide 6 Try.f6 rfl rfl rfl rfl rfl rfl rfl ⟨rfl, rfl, rfl, rfl, rfl⟩ rfl rfl rfl rfl rfl (by kernel_rfl) Try.func6 (by kernel_rfl)
    (of_decide_eq_true (by kernel_rfl)) (by unfold Func.isWrapper; first | (rw [if_pos (by decide +kernel)]; kernel_rfl) | (rw [if_neg (by decide +kernel)]; exact ⟨rfl, rfl⟩))
    (fun os started H enc _ => lifted os started H enc)
#print axioms holds
end lawStatOne
end Go.Proofs.Ytobdollnkndmeaa

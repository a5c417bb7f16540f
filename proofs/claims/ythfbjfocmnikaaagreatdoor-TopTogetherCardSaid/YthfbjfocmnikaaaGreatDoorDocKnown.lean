/- 3 texts in one: each says ahead of itself what is proved, and its conditions. -/
import Derived.Test.YthfbjfocmnikaaaGreatDoorDocGo
import Derived.Test.YthfbjfocmnikaaaGreatDoorDocHelp
import Derived.Test.YthfbjfocmnikaaaGreatDoorNthSeen
import Derived.Test.YthfbjfocmnikaaaGreatDoorSameLeafs
/- A row of ops is applied to a document, whatever comes of it: the round of such a loop. Plain, and by the contract of Apply. Conditions: the ops can be read. -/
namespace Go.Proofs.YthfbjfocmnikaaaGreatDoor
open Go.RowKit
set_option linter.unusedVariables false
/-- A document of the call's own to which at most n ops were applied. -/
def DocAt (w : World) (B b n : Nat) (wr : World) : Prop := ∃ st S D, DocIs wr B S b st D ∧ st.Ok ∧ Says st.ops st ∧ Numbered st.ops ∧ st.ops.length ≤ n ∧ Below w.heap.size w wr
theorem DocAt.new {w w' : World} {B b : Nat} {S : List Nat} {D : DLay} (h : DocIs w' B S b LDoc.new D) (hb : Below w.heap.size w w') (n : Nat) : DocAt w B b n w' := ⟨_, S, D, h, LDoc.new_ok, Says.new, Numbered.nil, Nat.zero_le _, hb⟩
theorem DocAt.more {w wr : World} {B b n m : Nat} (h : DocAt w B b n wr) (hm : n ≤ m) : DocAt w B b m wr := by
  obtain ⟨st, S, D, h1, h2, h3, h4, h5, h6⟩ := h
  exact ⟨st, S, D, h1, h2, h3, h4, by omega, h6⟩
theorem DocAt.round {w wr : World} {B b n : Nat} (h : DocAt w B b n wr) (hB : w.heap.size ≤ B) {A : Option Addr} {ys : List OpAt} (hr : Reads w w.heap.size 6 A ys.length (ocells ys)) (hg : ∀ y ∈ ys, y.Good w) {k : Nat} (hk : k < ys.length) :
    ∃ ad who nn what p letter seen ya yc, A = some ad ∧ wr.cell? (ad.add (k * 6)) = some (.int .i64 who) ∧ wr.cell? ⟨(ad.add (k * 6)).block, (ad.add (k * 6)).off + 1, none⟩ = some (.int .i64 nn) ∧ wr.cell? ⟨(ad.add (k * 6)).block, (ad.add (k * 6)).off + 2, none⟩ = some (.int .i64 what) ∧
      wr.cell? ⟨(ad.add (k * 6)).block, (ad.add (k * 6)).off + 3, none⟩ = some (.string p) ∧ wr.cell? ⟨(ad.add (k * 6)).block, (ad.add (k * 6)).off + 4, none⟩ = some (.int .i64 letter) ∧ wr.cell? ⟨(ad.add (k * 6)).block, (ad.add (k * 6)).off + 5, none⟩ = some (.slice ya seen yc) ∧
      Calls Tryz.prog 36 #[.pointer (some ⟨b, 0, none⟩), .agg #[.int .i64 who, .int .i64 nn, .int .i64 what, .string p, .int .i64 letter, .slice ya seen yc]] wr (fun e w' => (∃ (is : Bool) (ke : Int), e = .returned (.tuple #[.bool is, errV ke])) ∧ DocAt w B b (n + 1) w') := by
  obtain ⟨st, S, D, hd, hok, hs, hn, hl, hbw⟩ := h
  obtain ⟨ad, rfl, hab, c0', c1', c2', c3', c4', c5'⟩ := ((hr.below hbw).more hbw.size).op hk
  have hgood := (hg _ (List.getElem_mem hk)).below hbw
  have hps := hgood.2.1
  have hfar : 0 < ys[k].op.seen.length → ∀ g ∈ ob ys[k].at_, g ∉ S := (hg _ (List.getElem_mem hk)).1.far (fun g hg => by have := (hd.own g hg).1; omega)
  have HA := apply_doc wr _ _ _ _ _ hd hok ys[k].op ys[k].at_ ys[k].cap (by unfold maxLen at hps; omega) hgood.1 hfar
  refine ⟨ad, _, _, _, _, _, _, _, _, rfl, c0', c1', c2', c3', c4', c5', HA.mono ?_⟩
  rintro e w' ⟨rfl, S', D', h1, h2, h3⟩
  refine ⟨⟨_, _, rfl⟩, _, S', D', h1, LDoc.apply_ok hok _, LDoc.apply_says hok hs _, LDoc.apply_numbered hok hs hn _, ?_, hbw.trans (h2.below hbw.size (fun g hg => by have := (hd.own g hg).1; omega))⟩
  rcases LDoc.apply_three (d := st) ys[k].op with ⟨_, _, q⟩ | ⟨_, _, q⟩ | ⟨_, _, q⟩
  · rw [q]; simp; omega
  · rw [q]; omega
  · rw [q]; omega
/-- What came of the ops is far from older rows: they read as before. -/
theorem DocAt.below {w wr : World} {B b n : Nat} (h : DocAt w B b n wr) : Below w.heap.size w wr := by
  obtain ⟨st, S, D, h1, h2, h3, h4, h5, h6⟩ := h
  exact h6
end Go.Proofs.YthfbjfocmnikaaaGreatDoor
/- edit.Do, walked. Conditions: the document is right; the ops can be read, and lie apart from it. -/
namespace Go.Proofs.YthfbjfocmnikaaaGreatDoor
open Go.RowKit
set_option linter.unusedVariables false
/-- An op's dots can be read, and lie apart from the blocks S. -/
def OpFar (w : World) (S : List Nat) (y : OpAt) : Prop := Reads w w.heap.size 2 y.at_ y.op.seen.length (dcells y.op.seen) ∧ y.op.place.size ≤ 9223372036854775807 ∧ (0 < y.op.seen.length → ∀ g ∈ ob y.at_, g ∉ S)
structure DoMid (w : World) (B : Nat) (S : List Nat) (b : Nat) (A : Option Addr) (ys : List OpAt) (st : LDoc) (k : Nat) (wr : World) (S' : List Nat) (D' : DLay) (sk : LDoc) : Prop where
  doc : DocIs wr B S' b sk D'
  only : Only S w wr
  sub : ∀ g ∈ S', g ∈ S ∨ w.heap.size ≤ g
  ok : sk.Ok
  restE : st.doE (ys.map OpAt.op) = sk.doE ((ys.drop k).map OpAt.op)
  restR : st.doR (ys.map OpAt.op) = sk.doR ((ys.drop k).map OpAt.op)
def DoLoop (w : World) (B : Nat) (S : List Nat) (b : Nat) (A : Option Addr) (ys : List OpAt) (st : LDoc) (i : Value) (wr : World) : Prop := ∃ k : Nat, ∃ S' D' sk, k ≤ ys.length ∧ i = .int .i64 k ∧ Hid (DoMid w B S b A ys st k wr S' D' sk)
theorem DocIs.lt {w : World} {B : Nat} {S : List Nat} {b : Nat} {st : LDoc} {D : DLay} (h : DocIs w B S b st D) : ∀ g ∈ S, B ≤ g ∧ g < w.heap.size := h.own
namespace DoMid
variable {w wr w' : World} {B b : Nat} {S S' : List Nat} {A : Option Addr} {ys : List OpAt} {st sk : LDoc} {k : Nat} {D' : DLay}
/-- The world in which the op's box has been laid. -/
theorem boxed (h : DoMid w B S b A ys st k wr S' D' sk) (o : Obj) : DocIs (wr.alloc o) B S' b sk D' := h.doc.below ((Below.refl _ _).alloc (Nat.le_refl _) o)
theorem next (h : DoMid w B S b A ys st k wr S' D' sk) (hk : k < ys.length) (o : Obj) (he : sk.applyE ys[k].op = 0) (ht : DocTo (wr.alloc o) B S' b (sk.apply ys[k].op) w') : ∃ S2 D2, DoMid w B S b A ys st (k + 1) w' S2 D2 (sk.apply ys[k].op) := by
  obtain ⟨S2, D2, h1, h2, h3⟩ := ht
  have hd := List.drop_eq_getElem_cons hk
  have hsz : wr.heap.size ≤ (wr.alloc o).heap.size := by simp
  have hs0 := h.only.size
  refine ⟨S2, D2, h1, (h.only.alloc o).trans_new h2 (fun i hi => h.sub i hi), fun g hg => ?_, LDoc.apply_ok h.ok _, ?_, ?_⟩
  · rcases h3 g hg with h4 | h4
    · exact h.sub g h4
    · exact .inr (by omega)
  · rw [h.restE, hd, List.map_cons, LDoc.doE, if_neg (by omega)]
  · rw [h.restR, hd, List.map_cons, LDoc.doR, if_neg (by omega)]
theorem stop (h : DoMid w B S b A ys st k wr S' D' sk) (hk : k < ys.length) (o : Obj) (he : sk.applyE ys[k].op ≠ 0) (ht : DocTo (wr.alloc o) B S' b sk w') : st.doE (ys.map OpAt.op) = sk.applyE ys[k].op ∧ DocTo w B S b (st.doR (ys.map OpAt.op)) w' := by
  have hd := List.drop_eq_getElem_cons hk
  have hsz : wr.heap.size ≤ (wr.alloc o).heap.size := by simp
  have hs0 := h.only.size
  refine ⟨by rw [h.restE, hd, List.map_cons, LDoc.doE, if_pos he], ?_⟩
  rw [h.restR, hd, List.map_cons, LDoc.doR, if_pos he]
  exact DocTo.back (h.only.alloc o) h.sub ht
theorem fin (h : DoMid w B S b A ys st k wr S' D' sk) (hk : ys.length ≤ k) : st.doE (ys.map OpAt.op) = 0 ∧ DocTo w B S b (st.doR (ys.map OpAt.op)) wr := by
  have hd : ys.drop k = [] := List.drop_eq_nil_of_le hk
  refine ⟨by rw [h.restE, hd]; rfl, ?_⟩
  rw [h.restR, hd]
  exact ⟨S', D', h.doc, h.only, h.sub⟩
end DoMid
def DoPost (w : World) (B : Nat) (S : List Nat) (b : Nat) (k : Int) (st : LDoc) (e : Ending) (w' : World) : Prop := e = .returned (errV k) ∧ DocTo w B S b st w'
set_option maxRecDepth 100000 in
set_option maxHeartbeats 8000000 in
theorem do_any (w : World) (B : Nat) (S : List Nat) (b : Nat) (st : LDoc) (D : DLay) (h : DocIs w B S b st D) (ok : st.Ok) (A : Option Addr) (c : Nat) (ys : List OpAt) (hr : Reads w w.heap.size 6 A ys.length (ocells ys)) (ha : 0 < ys.length → ∀ g ∈ ob A, g ∉ S)
    (hf : ∀ y ∈ ys, OpFar w S y) (hl : ys.length ≤ 9223372036854775807) :
    Calls Tryz.prog 90 #[.pointer (some ⟨b, 0, none⟩), .slice A ys.length c] w (DoPost w B S b (st.doE (ys.map OpAt.op)) (st.doR (ys.map OpAt.op))) := by
  have HR := Lib.hid hr
  have HA := Lib.hid ha
  have HF := Lib.hid hf
  have HM0 : Hid (DoMid w B S b A ys st 0 w S D st) := ⟨h, Only.refl _ _, fun g hg => .inl hg, ok, rfl, rfl⟩
  clear hr ha hf h ok
  go_enter Tryz.func90, Tryz.ntmps90
  go_wp2_with fail
  go_loopw [11] (fun i wr => DoLoop w B S b A ys st i wr) (fun i _ => ys.length - (intOf i).toNat)
  case atStart => exact ⟨0, _, _, _, Nat.zero_le _, rfl, HM0.out⟩
  case round =>
    obtain ⟨k, S', D', sk, hk, rfl, HM⟩ := hrel
    have k0 : (0 : Int) ≤ (k : Int) := by omega
    by_cases hlt : k < ys.length
    · have k1 : (k : Int) < (ys.length : Int) := by omega
      have hro := Reads.only HR.out HM.out.only HA.out
      obtain ⟨ad, rfl, hab, d0, d1, d2, d3, d4, d5⟩ := hro.op hlt
      obtain ⟨f1, f2, f3⟩ := HF.out _ (List.getElem_mem hlt)
      have f1' := Reads.only f1 HM.out.only f3
      have hfar : 0 < ys[k].op.seen.length → ∀ g ∈ ob ys[k].at_, g ∉ S' := fun hn g hg hm => by
        rcases HM.out.sub g hm with h4 | h4
        · exact f3 hn g hg h4
        · obtain ⟨ad', e, hb, _⟩ := f1.2 hn
          rw [e] at hg; simp [ob] at hg; omega
      have HAP : Hid (∀ o : Obj, Calls Tryz.prog 36 #[.pointer (some ⟨b, 0, none⟩), ys[k].op.val ys[k].at_ ys[k].cap] (wr.alloc o) (ApplyPost (wr.alloc o) B S' b (sk.applyB ys[k].op) (sk.applyE ys[k].op) (sk.apply ys[k].op))) := fun o =>
        apply_doc (wr.alloc o) B S' b sk D' (HM.out.boxed o) HM.out.ok ys[k].op ys[k].at_ ys[k].cap f2 ((f1'.alloc (Nat.le_refl _) o).more (by simp)) hfar
      have HNX : Hid (∀ (he : sk.applyE ys[k].op = 0) (o : Obj) (w' : World), DocTo (wr.alloc o) B S' b (sk.apply ys[k].op) w' → ∃ S2 D2, DoMid w B S b (some ad) ys st (k + 1) w' S2 D2 (sk.apply ys[k].op)) := fun he o w' ht => HM.out.next hlt o he ht
      have HST : Hid (∀ (he : sk.applyE ys[k].op ≠ 0) (o : Obj) (w' : World), DocTo (wr.alloc o) B S' b sk w' → st.doE (ys.map OpAt.op) = sk.applyE ys[k].op ∧ DocTo w B S b (st.doR (ys.map OpAt.op)) w') := fun he o w' ht => HM.out.stop hlt o he ht
      have HBAD := Lib.hid (fun he : sk.applyE ys[k].op ≠ 0 => LDoc.applyE_bad (d := sk) (o := ys[k].op) rfl he)
      clear f1 f1' f2 f3 hfar hro hab
      generalize ys[k] = y at *
      have HE0 : errV 0 = .nilIface := rfl
      by_cases he : sk.applyE y.op = 0
      · have HNY := Lib.hid (HNX.out he)
        rw [he] at HAP
        clear HST HBAD he HNX
        generalize sk.apply y.op = sk2 at *
        generalize sk.applyB y.op = bb at *
        obtain ⟨⟨⟨who, n⟩, what, p, letter, seen⟩, ya, yc⟩ := y
        unfold LOp.val at HAP
        simp only at d0 d1 d2 d3 d4 d5 HAP
        go_wp2_with fail
        refine (HAP.out _).mono ?_
        rintro e w2 ⟨rfl, ht⟩
        have HN2 := Lib.hid (HNY.out _ _ ht)
        rw [HE0]
        clear ht HNY HAP
        go_wp2_with fail
        go_roundw
        case rel =>
          obtain ⟨S2, D2, hfin⟩ := HN2.out
          exact ⟨k + 1, S2, D2, sk2, by omega, by go_num, hfin⟩
        case measure => simp [intOf]; omega
      · obtain ⟨_, hb, hs⟩ := HBAD.out he
        have HSU := Lib.hid (HST.out he)
        have HV := Lib.hid (errV_ne he)
        rw [hb, hs] at HAP
        clear HNX HBAD he hb hs HST
        generalize sk.applyE y.op = ke at *
        obtain ⟨⟨⟨who, n⟩, what, p, letter, seen⟩, ya, yc⟩ := y
        unfold LOp.val at HAP
        simp only at d0 d1 d2 d3 d4 d5 HAP
        go_wp2_with fail
        refine (HAP.out _).mono ?_
        rintro e w2 ⟨rfl, ht⟩
        have HN2 := Lib.hid (HSU.out _ _ ht)
        rw [HV.out]
        clear ht HSU HAP
        go_wp2_with fail
        go_ret
        obtain ⟨n1, n2⟩ := HN2.out
        exact ⟨by rw [n1, HV.out]; rfl, n2⟩
    · have k1 : ¬ (k : Int) < (ys.length : Int) := by omega
      obtain ⟨f1, f2⟩ := HM.out.fin (by omega)
      have F1 := Lib.hid f1
      have F2 := Lib.hid f2
      clear f1 f2
      go_wp2_with fail
      go_ret
      exact ⟨by rw [F1.out]; rfl, F2.out⟩
end Go.Proofs.YthfbjfocmnikaaaGreatDoor
/- (*doc.Doc).Known, walked. Conditions: the document is right. -/
namespace Go.Proofs.YthfbjfocmnikaaaGreatDoor
open Go.RowKit
set_option linter.unusedVariables false
set_option maxRecDepth 100000 in
theorem known_doc (w : World) (B : Nat) (S : List Nat) (b : Nat) (st : LDoc) (D : DLay) (h : DocIs w B S b st D) (ok : st.Ok) : Calls Tryz.prog 27 #[.pointer (some ⟨b, 0, none⟩)] w (RowPost w 3 1 st.known.length (ints st.known)) := by
  have HC := Lib.hid (cloneI w D.a3 st.known.length D.c3 (ints st.known) h.known.reads (oneCells_ints st.known) (Fits.of_small (by have := vec_ok ok.known; omega) (by decide)))
  have c0 : w.cell? ⟨b, 2, none⟩ = some (.slice D.a3 st.known.length D.c3) := by rw [h.blk.cell]; rfl
  clear h ok
  go_enter Tryz.func27, Tryz.ntmps27
  go_wp2_with fail
  refine HC.out.mono ?_
  rintro e w1 ⟨V, c, rfl, hO, hb⟩
  have HO := Lib.hid hO
  have HB := Lib.hid hb
  clear hO hb
  go_wp2_with fail
  go_ret
  exact ⟨V, c, rfl, HO.out, HB.out⟩
end Go.Proofs.YthfbjfocmnikaaaGreatDoor

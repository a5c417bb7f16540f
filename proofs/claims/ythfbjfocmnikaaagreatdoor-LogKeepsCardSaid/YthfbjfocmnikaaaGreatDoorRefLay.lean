/- 15 texts in one: each says ahead of itself what is proved, and its conditions. -/
import Derived.Deep.CutBlock
import Derived.Deep.RegionHeld3
import Derived.Test.YthfbjfocmnikaaaGreatDoorBookAt
import Derived.Test.YthfbjfocmnikaaaGreatDoorBookLaw
import Derived.Test.YthfbjfocmnikaaaGreatDoorDocGo
import Derived.Test.YthfbjfocmnikaaaGreatDoorDocHelp
import Derived.Test.YthfbjfocmnikaaaGreatDoorLetter
import Derived.Test.YthfbjfocmnikaaaGreatDoorRefIn
import Derived.Test.YthfbjfocmnikaaaGreatDoorSame0
/- edit.Do, walked. Conditions: the document is right; the ops can be read, and lie apart from it. -/
namespace Go.Proofs.YthfbjfocmnikaaaGreatDoor
open Go.RowKit
set_option linter.unusedVariables false
/-- An op's dots can be read, and lie apart from the blocks S. -/
def OpFar (w : World) (S : List Nat) (y : OpAt) : Prop := Reads w w.heap.size 2 y.at_ y.op.seen.length (dcells y.op.seen) ∧ y.op.place.size ≤ 9223372036854775807 ∧ (0 < y.op.seen.length → ∀ g ∈ ob y.at_, g ∉ S)
structure DoMid (w : World) (B : Nat) (S : List Nat) (b : Nat) (A : Option Addr) (ys : List OpAt) (st : LDoc) (k : Nat) (wr : World) (S' : List Nat) (D' : DLay) (sk : LDoc) : Prop where
  doc : DocIs wr B S' b sk D'
  only : Only S w wr
  sub : ∀ g ∈ S', g ∈ S ∨ w.heap.size ≤ g
  ok : sk.Ok
  restE : st.doE (ys.map OpAt.op) = sk.doE ((ys.drop k).map OpAt.op)
  restR : st.doR (ys.map OpAt.op) = sk.doR ((ys.drop k).map OpAt.op)
def DoLoop (w : World) (B : Nat) (S : List Nat) (b : Nat) (A : Option Addr) (ys : List OpAt) (st : LDoc) (i : Value) (wr : World) : Prop := ∃ k : Nat, ∃ S' D' sk, k ≤ ys.length ∧ i = .int .i64 k ∧ Hid (DoMid w B S b A ys st k wr S' D' sk)
theorem DocIs.lt {w : World} {B : Nat} {S : List Nat} {b : Nat} {st : LDoc} {D : DLay} (h : DocIs w B S b st D) : ∀ g ∈ S, B ≤ g ∧ g < w.heap.size := h.own
namespace DoMid
variable {w wr w' : World} {B b : Nat} {S S' : List Nat} {A : Option Addr} {ys : List OpAt} {st sk : LDoc} {k : Nat} {D' : DLay}
/-- The world in which the op's box has been laid. -/
theorem boxed (h : DoMid w B S b A ys st k wr S' D' sk) (o : Obj) : DocIs (wr.alloc o) B S' b sk D' := h.doc.below ((Below.refl _ _).alloc (Nat.le_refl _) o)
theorem next (h : DoMid w B S b A ys st k wr S' D' sk) (hk : k < ys.length) (o : Obj) (he : sk.applyE ys[k].op = 0) (ht : DocTo (wr.alloc o) B S' b (sk.apply ys[k].op) w') : ∃ S2 D2, DoMid w B S b A ys st (k + 1) w' S2 D2 (sk.apply ys[k].op) := by
  obtain ⟨S2, D2, h1, h2, h3⟩ := ht
  have hd := List.drop_eq_getElem_cons hk
  have hsz : wr.heap.size ≤ (wr.alloc o).heap.size := by simp
  have hs0 := h.only.size
  refine ⟨S2, D2, h1, (h.only.alloc o).trans_new h2 (fun i hi => h.sub i hi), fun g hg => ?_, LDoc.apply_ok h.ok _, ?_, ?_⟩
  · rcases h3 g hg with h4 | h4
    · exact h.sub g h4
    · exact .inr (by omega)
  · rw [h.restE, hd, List.map_cons, LDoc.doE, if_neg (by omega)]
  · rw [h.restR, hd, List.map_cons, LDoc.doR, if_neg (by omega)]
theorem stop (h : DoMid w B S b A ys st k wr S' D' sk) (hk : k < ys.length) (o : Obj) (he : sk.applyE ys[k].op ≠ 0) (ht : DocTo (wr.alloc o) B S' b sk w') : st.doE (ys.map OpAt.op) = sk.applyE ys[k].op ∧ DocTo w B S b (st.doR (ys.map OpAt.op)) w' := by
  have hd := List.drop_eq_getElem_cons hk
  have hsz : wr.heap.size ≤ (wr.alloc o).heap.size := by simp
  have hs0 := h.only.size
  refine ⟨by rw [h.restE, hd, List.map_cons, LDoc.doE, if_pos he], ?_⟩
  rw [h.restR, hd, List.map_cons, LDoc.doR, if_pos he]
  exact DocTo.back (h.only.alloc o) h.sub ht
theorem fin (h : DoMid w B S b A ys st k wr S' D' sk) (hk : ys.length ≤ k) : st.doE (ys.map OpAt.op) = 0 ∧ DocTo w B S b (st.doR (ys.map OpAt.op)) wr := by
  have hd : ys.drop k = [] := List.drop_eq_nil_of_le hk
  refine ⟨by rw [h.restE, hd]; rfl, ?_⟩
  rw [h.restR, hd]
  exact ⟨S', D', h.doc, h.only, h.sub⟩
end DoMid
def DoPost (w : World) (B : Nat) (S : List Nat) (b : Nat) (k : Int) (st : LDoc) (e : Ending) (w' : World) : Prop := e = .returned (errV k) ∧ DocTo w B S b st w'
set_option maxRecDepth 100000 in
set_option maxHeartbeats 8000000 in
theorem do_any (w : World) (B : Nat) (S : List Nat) (b : Nat) (st : LDoc) (D : DLay) (h : DocIs w B S b st D) (ok : st.Ok) (A : Option Addr) (c : Nat) (ys : List OpAt) (hr : Reads w w.heap.size 6 A ys.length (ocells ys)) (ha : 0 < ys.length → ∀ g ∈ ob A, g ∉ S)
    (hf : ∀ y ∈ ys, OpFar w S y) (hl : ys.length ≤ 9223372036854775807) :
    Calls Tryz.prog 90 #[.pointer (some ⟨b, 0, none⟩), .slice A ys.length c] w (DoPost w B S b (st.doE (ys.map OpAt.op)) (st.doR (ys.map OpAt.op))) := by
  have HR := Lib.hid hr
  have HA := Lib.hid ha
  have HF := Lib.hid hf
  have HM0 : Hid (DoMid w B S b A ys st 0 w S D st) := ⟨h, Only.refl _ _, fun g hg => .inl hg, ok, rfl, rfl⟩
  clear hr ha hf h ok
  go_enter Tryz.func90, Tryz.ntmps90
  go_wp2_with fail
  go_loopw [11] (fun i wr => DoLoop w B S b A ys st i wr) (fun i _ => ys.length - (intOf i).toNat)
  case atStart => exact ⟨0, _, _, _, Nat.zero_le _, rfl, HM0.out⟩
  case round =>
    obtain ⟨k, S', D', sk, hk, rfl, HM⟩ := hrel
    have k0 : (0 : Int) ≤ (k : Int) := by omega
    by_cases hlt : k < ys.length
    · have k1 : (k : Int) < (ys.length : Int) := by omega
      have hro := Reads.only HR.out HM.out.only HA.out
      obtain ⟨ad, rfl, hab, d0, d1, d2, d3, d4, d5⟩ := hro.op hlt
      obtain ⟨f1, f2, f3⟩ := HF.out _ (List.getElem_mem hlt)
      have f1' := Reads.only f1 HM.out.only f3
      have hfar : 0 < ys[k].op.seen.length → ∀ g ∈ ob ys[k].at_, g ∉ S' := fun hn g hg hm => by
        rcases HM.out.sub g hm with h4 | h4
        · exact f3 hn g hg h4
        · obtain ⟨ad', e, hb, _⟩ := f1.2 hn
          rw [e] at hg; simp [ob] at hg; omega
      have HAP : Hid (∀ o : Obj, Calls Tryz.prog 36 #[.pointer (some ⟨b, 0, none⟩), ys[k].op.val ys[k].at_ ys[k].cap] (wr.alloc o) (ApplyPost (wr.alloc o) B S' b (sk.applyB ys[k].op) (sk.applyE ys[k].op) (sk.apply ys[k].op))) := fun o =>
        apply_doc (wr.alloc o) B S' b sk D' (HM.out.boxed o) HM.out.ok ys[k].op ys[k].at_ ys[k].cap f2 ((f1'.alloc (Nat.le_refl _) o).more (by simp)) hfar
      have HNX : Hid (∀ (he : sk.applyE ys[k].op = 0) (o : Obj) (w' : World), DocTo (wr.alloc o) B S' b (sk.apply ys[k].op) w' → ∃ S2 D2, DoMid w B S b (some ad) ys st (k + 1) w' S2 D2 (sk.apply ys[k].op)) := fun he o w' ht => HM.out.next hlt o he ht
      have HST : Hid (∀ (he : sk.applyE ys[k].op ≠ 0) (o : Obj) (w' : World), DocTo (wr.alloc o) B S' b sk w' → st.doE (ys.map OpAt.op) = sk.applyE ys[k].op ∧ DocTo w B S b (st.doR (ys.map OpAt.op)) w') := fun he o w' ht => HM.out.stop hlt o he ht
      have HBAD := Lib.hid (fun he : sk.applyE ys[k].op ≠ 0 => LDoc.applyE_bad (d := sk) (o := ys[k].op) rfl he)
      clear f1 f1' f2 f3 hfar hro hab
      generalize ys[k] = y at *
      have HE0 : errV 0 = .nilIface := rfl
      by_cases he : sk.applyE y.op = 0
      · have HNY := Lib.hid (HNX.out he)
        rw [he] at HAP
        clear HST HBAD he HNX
        generalize sk.apply y.op = sk2 at *
        generalize sk.applyB y.op = bb at *
        obtain ⟨⟨⟨who, n⟩, what, p, letter, seen⟩, ya, yc⟩ := y
        unfold LOp.val at HAP
        simp only at d0 d1 d2 d3 d4 d5 HAP
        go_wp2_with fail
        refine (HAP.out _).mono ?_
        rintro e w2 ⟨rfl, ht⟩
        have HN2 := Lib.hid (HNY.out _ _ ht)
        rw [HE0]
        clear ht HNY HAP
        go_wp2_with fail
        go_roundw
        case rel =>
          obtain ⟨S2, D2, hfin⟩ := HN2.out
          exact ⟨k + 1, S2, D2, sk2, by omega, by go_num, hfin⟩
        case measure => simp [intOf]; omega
      · obtain ⟨_, hb, hs⟩ := HBAD.out he
        have HSU := Lib.hid (HST.out he)
        have HV := Lib.hid (errV_ne he)
        rw [hb, hs] at HAP
        clear HNX HBAD he hb hs HST
        generalize sk.applyE y.op = ke at *
        obtain ⟨⟨⟨who, n⟩, what, p, letter, seen⟩, ya, yc⟩ := y
        unfold LOp.val at HAP
        simp only at d0 d1 d2 d3 d4 d5 HAP
        go_wp2_with fail
        refine (HAP.out _).mono ?_
        rintro e w2 ⟨rfl, ht⟩
        have HN2 := Lib.hid (HSU.out _ _ ht)
        rw [HV.out]
        clear ht HSU HAP
        go_wp2_with fail
        go_ret
        obtain ⟨n1, n2⟩ := HN2.out
        exact ⟨by rw [n1, HV.out]; rfl, n2⟩
    · have k1 : ¬ (k : Int) < (ys.length : Int) := by omega
      obtain ⟨f1, f2⟩ := HM.out.fin (by omega)
      have F1 := Lib.hid f1
      have F2 := Lib.hid f2
      clear f1 f2
      go_wp2_with fail
      go_ret
      exact ⟨by rw [F1.out]; rfl, F2.out⟩
end Go.Proofs.YthfbjfocmnikaaaGreatDoor
/- The o-th leaf that is seen: plain. Conditions: none. -/
namespace Go.Proofs.YthfbjfocmnikaaaGreatDoor
set_option linter.unusedVariables false
end Go.Proofs.YthfbjfocmnikaaaGreatDoor
/- What lies between: above the one, below the other, a place of its author. Plain lemmas. Conditions: stated with each. -/
namespace Go.Proofs.YthfbjfocmnikaaaGreatDoor
open Go.RowKit
set_option linter.unusedVariables false

structure Good (a b : ByteArray) (who : Int) (p : ByteArray) : Prop where
  check : placeErr p = 0
  who : ((byteAt p (p.size - 1) - 97 : Nat) : Int) = who
  long : (p.size : Int) = (quarter a b).length + 1
  room : roomErr a b = 0
  above : Op.bytesLess p.toList a.toList = false
  other : (p.toList == a.toList) = false
  below : b.size ≠ 0 → Op.bytesLess p.toList b.toList = true
end Go.Proofs.YthfbjfocmnikaaaGreatDoor
/- What an insert makes of a book: plain. Conditions: none. -/
namespace Go.Proofs.YthfbjfocmnikaaaGreatDoor
open Go.RowKit
set_option linter.unusedVariables false
theorem good_lt {a b : ByteArray} {who : Int} {p : ByteArray} (h : Good a b who p) : lt a p = true ∧ (b.size ≠ 0 → lt p b = true) := by
  refine ⟨?_, h.below⟩
  cases h1 : lt a p with
  | true => rfl
  | false =>
    have h2 : lt p a = false := h.above
    have := lt_total h1 h2
    subst this
    have := h.other
    simp at this
/-- Places of a are up to left, of b from right on. -/
structure Gap (a b : List LLeaf) (left right : ByteArray) : Prop where
  low : ∀ x ∈ a, x.place = left ∨ lt x.place left = true
  high : ∀ x ∈ b, right.size ≠ 0 ∧ (x.place = right ∨ lt right x.place = true)
theorem Gap.at_ {a b : List LLeaf} {left right : ByteArray} (h : Gap a b left right) {who : Int} {p : ByteArray} (hp : Good left right who p) : (∀ x ∈ a, lt x.place p = true) ∧ ∀ x ∈ b, lt p x.place = true := by
  obtain ⟨h1, h2⟩ := good_lt hp
  refine ⟨fun x hx => ?_, fun x hx => ?_⟩
  · rcases h.low x hx with h3 | h3
    · rw [h3]; exact h1
    · exact lt_trans h3 h1
  · obtain ⟨h4, h3⟩ := h.high x hx
    rcases h3 with h3 | h3
    · rw [h3]; exact h2 h4
    · exact lt_trans (h2 h4) h3
theorem Gap.next {a b : List LLeaf} {left right : ByteArray} (h : Gap a b left right) {who : Int} {p : ByteArray} (hp : Good left right who p) (n : Int) (s : Bool) : Gap (a ++ [⟨p, n, s⟩]) b p right := by
  obtain ⟨h1, h2⟩ := h.at_ hp
  refine ⟨fun x hx => ?_, h.high⟩
  rcases List.mem_append.1 hx with hx | hx
  · exact .inr (h1 x hx)
  · simp at hx; subst hx; exact .inl rfl
namespace LDoc
end LDoc
namespace LDoc
end LDoc
end Go.Proofs.YthfbjfocmnikaaaGreatDoor
/- (*edit.Maker).Add and edit.NewMaker, walked. Conditions: the document is right; the maker's number is small. -/
namespace Go.Proofs.YthfbjfocmnikaaaGreatDoor
open Go.RowKit
set_option linter.unusedVariables false
/-- A maker in memory, with the ops that it has made. -/
structure MkIs (w : World) (B b : Nat) (m : LMk) (V : Option Addr) (c : Nat) (ys : List OpAt) : Prop where
  blk : Blk w b 164 #[.int .i64 m.who, .int .i64 m.n, .slice V ys.length c]
  ops : OwnOps w B V c ys
  same : ys.map OpAt.op = m.ops
  base : B ≤ b
/-- The maker goes on: of what was there only it and its row may have turned. -/
def MkTo (w : World) (B b : Nat) (V : Option Addr) (m' : LMk) (w' : World) : Prop :=
  ∃ V' c' ys', MkIs w' B b m' V' c' ys' ∧ Only (b :: ob V) w w' ∧ ∀ g ∈ ob V', g ∈ ob V ∨ w.heap.size ≤ g
namespace MkIs
variable {w w' : World} {B b : Nat} {m : LMk} {V : Option Addr} {c : Nat} {ys : List OpAt}
theorem only {T : List Nat} (h : MkIs w B b m V c ys) (ho : Only T w w') (hT : ∀ g ∈ T, g < B ∨ w.heap.size ≤ g) : MkIs w' B b m V c ys :=
  ⟨ho.blk h.blk (fun hm => by have := hT _ hm; have := h.base; have := h.blk.lt; omega), ops_far h.ops ho hT, h.same, h.base⟩
theorem below (h : MkIs w B b m V c ys) (hb : Below w.heap.size w w') : MkIs w' B b m V c ys := h.only (T := []) (Only.of_below hb) (by simp)
theorem len (h : MkIs w B b m V c ys) : ys.length = m.ops.length := by rw [← h.same, List.length_map]
theorem to_self (h : MkIs w B b m V c ys) : MkTo w B b V m w := ⟨V, c, ys, h, Only.refl _ _, fun g hg => .inl hg⟩
end MkIs
theorem MkTo.trans {w w1 w2 : World} {B b : Nat} {V V1 : Option Addr} {c1 : Nat} {ys1 : List OpAt} {m1 m2 : LMk} (h1 : MkIs w1 B b m1 V1 c1 ys1) (ho : Only (b :: ob V) w w1) (hn : ∀ g ∈ ob V1, g ∈ ob V ∨ w.heap.size ≤ g) (h2 : MkTo w1 B b V1 m2 w2) : MkTo w B b V m2 w2 := by
  obtain ⟨V2, c2, ys2, i2, o2, n2⟩ := h2
  refine ⟨V2, c2, ys2, i2, ho.trans_new o2 (fun i hi => ?_), fun g hg => ?_⟩
  · rcases List.mem_cons.1 hi with hi | hi
    · exact .inl (by simp [hi])
    · rcases hn i hi with h | h
      · exact .inl (by simp [h])
      · exact .inr h
  · have := ho.size
    rcases n2 g hg with h | h
    · exact hn g h
    · exact .inr (by omega)
theorem MkTo.below {w w' : World} {B b : Nat} {m m' : LMk} {V : Option Addr} {c : Nat} {ys : List OpAt} (h : MkIs w B b m V c ys) (ht : MkTo w B b V m' w') {N : Nat} (hN : N ≤ B) (hs : B ≤ w.heap.size) : Below N w w' := by
  obtain ⟨V', c', ys', _, o, _⟩ := ht
  refine o.below (by omega) (fun g hg => ?_)
  rcases List.mem_cons.1 hg with rfl | hg
  · have := h.base; omega
  · have := (h.ops.row.lt g hg).1; omega
end Go.Proofs.YthfbjfocmnikaaaGreatDoor
/- Is a byte of a text no letter? slices.ContainsFunc over bytes, walked. Conditions: stated with each. -/
namespace Go.Proofs.YthfbjfocmnikaaaGreatDoor
open Go.RowKit
set_option linter.unusedVariables false
theorem bs_at {l : List UInt8} {k : Nat} (h : k < l.length) : (bs l)[k]? = some (.int .u8 l[k].toNat) := by simp [bs, h]
theorem Reads.byte {w : World} {B : Nat} {A : Option Addr} {l : List UInt8} (h : Reads w B 1 A l.length (bs l)) {k : Nat} (hk : k < l.length) : ∃ ad, A = some ad ∧ ad.block < B ∧ w.cell? (ad.add k) = some (.int .u8 l[k].toNat) := by
  obtain ⟨ad, e, hb, hc⟩ := h.2 (by omega)
  exact ⟨ad, e, hb, hc _ _ (bs_at hk)⟩
end Go.Proofs.YthfbjfocmnikaaaGreatDoor
/- (*edit.Maker).Insert, walked. Conditions: the book is right; the maker's number is small. -/
namespace Go.Proofs.YthfbjfocmnikaaaGreatDoor
open Go.RowKit
set_option linter.unusedVariables false
/-- Midway: k letters are typed. -/
structure InsMid (w : World) (B b : Nat) (V : Option Addr) (m : LMk) (right left : ByteArray) (t : List UInt8) (k : Nat) (wr : World) (lk : ByteArray) (mk : LMk) (V' : Option Addr) (c' : Nat) (ys' : List OpAt) : Prop where
  mkis : MkIs wr B b mk V' c' ys'
  only : Only (b :: ob V) w wr
  new : ∀ g ∈ ob V', g ∈ ob V ∨ w.heap.size ≤ g
  rest : LMk.typed right t left m = LMk.typed right (t.drop k) lk mk
  who : mk.who = m.who
  n : mk.n = m.n + k
  len : ys'.length = m.ops.length + k
  small : lk.size ≤ 9223372036854775807
namespace InsMid
variable {w wr w' : World} {B b : Nat} {V V' : Option Addr} {m mk : LMk} {right left lk : ByteArray} {t : List UInt8} {k c' : Nat} {ys' : List OpAt}
theorem stop (h : InsMid w B b V m right left t k wr lk mk V' c' ys') (hk : k < t.length) (he : betweenErr lk right mk.who ≠ 0) (hb : Below wr.heap.size wr w') :
    (LMk.typed right t left m).2 = betweenErr lk right mk.who ∧ MkTo w B b V (LMk.typed right t left m).1 w' := by
  rw [h.rest, List.drop_eq_getElem_cons hk, LMk.typed, if_pos he]
  exact ⟨rfl, V', c', ys', h.mkis.below hb, h.only.below_step hb, h.new⟩
theorem fin (h : InsMid w B b V m right left t k wr lk mk V' c' ys') (hk : t.length ≤ k) : (LMk.typed right t left m).2 = 0 ∧ MkTo w B b V (LMk.typed right t left m).1 wr := by
  rw [h.rest, List.drop_eq_nil_of_le hk, LMk.typed]
  exact ⟨rfl, V', c', ys', h.mkis, h.only, h.new⟩
theorem next (h : InsMid w B b V m right left t k wr lk mk V' c' ys') (hk : k < t.length) (he : ¬ betweenErr lk right mk.who ≠ 0) {w1 : World} (hb : Below wr.heap.size wr w1) (ht : MkTo w1 B b V' (mk.wr (strOf (betweenRes lk right mk.who)) t[k].toNat) w') :
    ∃ V2 c2 ys2, InsMid w B b V m right left t (k + 1) w' (strOf (betweenRes lk right mk.who)) (mk.wr (strOf (betweenRes lk right mk.who)) t[k].toNat) V2 c2 ys2 := by
  have hsz := h.only.size
  have hsz1 := hb.size
  obtain ⟨V2, c2, ys2, i2, o2, n2⟩ := MkTo.trans (h.mkis.below hb) (h.only.below_step hb) h.new ht
  refine ⟨V2, c2, ys2, i2, o2, n2, ?_, ?_, ?_, ?_, ?_⟩
  · rw [h.rest, List.drop_eq_getElem_cons hk, LMk.typed, if_neg he]; rfl
  · exact h.who
  · show mk.n + 1 = _
    rw [h.n]; omega
  · have e1 := i2.len
    have e2 := h.mkis.len
    rw [h.len] at e2
    rw [e1]
    simp [LMk.wr, LMk.add]
    omega
  · rw [strOf_size]
    unfold betweenRes
    split
    · have := quarter_le lk right
      simp; omega
    · simp
end InsMid
end Go.Proofs.YthfbjfocmnikaaaGreatDoor
/- edit.Insert, walked. Conditions: the document is right; the numbers are of 64 bits. -/
namespace Go.Proofs.YthfbjfocmnikaaaGreatDoor
open Go.RowKit
set_option linter.unusedVariables false
end Go.Proofs.YthfbjfocmnikaaaGreatDoor
/- cursor.Anchor, Resolve, Range, walked. Conditions: places that an int may count. -/
namespace Go.Proofs.YthfbjfocmnikaaaGreatDoor
open Go.RowKit
set_option linter.unusedVariables false

section
variable (w : World) (A : Option Addr) (c : Nat) (l : List LLeaf) (h : Reads w w.heap.size 3 A l.length (lcells l)) (hs : Sized l) (hn : l.length ≤ c) (hc : c ≤ 9223372036854775807)
include h hs hn hc
end
end Go.Proofs.YthfbjfocmnikaaaGreatDoor
/- Cursors stay by their letters when letters are typed: plain. Conditions: none. -/
namespace Go.Proofs.YthfbjfocmnikaaaGreatDoor
open Go.RowKit
set_option linter.unusedVariables false
end Go.Proofs.YthfbjfocmnikaaaGreatDoor
/- A closed fact that many laws begin with: what is typed into a new document; and ops that a call has laid lie apart from a document. Conditions: none. -/
namespace Go.Proofs.YthfbjfocmnikaaaGreatDoor
open Go.RowKit
set_option linter.unusedVariables false
end Go.Proofs.YthfbjfocmnikaaaGreatDoor
/- Two documents beside each other; a row of ops apart from them. Plain, and by the contract of Apply. Conditions: none of our own. -/
namespace Go.Proofs.YthfbjfocmnikaaaGreatDoor
open Go.RowKit
set_option linter.unusedVariables false
/-- Two documents of the call's own that share no block. -/
structure Docs2 (w : World) (B b1 b2 : Nat) (s1 s2 : LDoc) (wr : World) (S1 S2 : List Nat) (D1 D2 : DLay) : Prop where
  one : DocIs wr B S1 b1 s1 D1
  two : DocIs wr B S2 b2 s2 D2
  apart : ∀ g ∈ S1, g ∉ S2
  below : Below w.heap.size w wr
  base : w.heap.size ≤ B
namespace Docs2
variable {w wr w' : World} {B b1 b2 : Nat} {s1 s2 s : LDoc} {S1 S2 : List Nat} {D1 D2 : DLay}
theorem left (h : Docs2 w B b1 b2 s1 s2 wr S1 S2 D1 D2) (ht : DocTo wr B S1 b1 s w') : ∃ S' D', Docs2 w B b1 b2 s s2 w' S' S2 D' D2 ∧ Only S1 wr w' ∧ ∀ g ∈ S', g ∈ S1 ∨ wr.heap.size ≤ g := by
  obtain ⟨S', D', h1, h2, h3⟩ := ht
  refine ⟨S', D', ⟨h1, h.two.only h2 (fun g hg => h.apart g hg), fun g hg hm => ?_, h.below.trans (h2.below h.below.size (fun g hg => by have := (h.one.own g hg).1; have := h.base; omega)), h.base⟩, h2, h3⟩
  rcases h3 g hg with h4 | h4
  · exact h.apart g h4 hm
  · have := (h.two.own g hm).2; omega
theorem right (h : Docs2 w B b1 b2 s1 s2 wr S1 S2 D1 D2) (ht : DocTo wr B S2 b2 s w') : ∃ S' D', Docs2 w B b1 b2 s1 s w' S1 S' D1 D' ∧ Only S2 wr w' ∧ ∀ g ∈ S', g ∈ S2 ∨ wr.heap.size ≤ g := by
  obtain ⟨S', D', h1, h2, h3⟩ := ht
  refine ⟨S', D', ⟨h.one.only h2 (fun g hg hm => h.apart g hm hg), h1, fun g hg hm => ?_, h.below.trans (h2.below h.below.size (fun g hg => by have := (h.two.own g hg).1; have := h.base; omega)), h.base⟩, h2, h3⟩
  rcases h3 g hm with h4 | h4
  · exact h.apart g hg h4
  · have := (h.one.own g hg).2; omega
theorem step (h : Docs2 w B b1 b2 s1 s2 wr S1 S2 D1 D2) (hb : Below wr.heap.size wr w') : Docs2 w B b1 b2 s1 s2 w' S1 S2 D1 D2 :=
  ⟨h.one.below hb, h.two.below hb, h.apart, h.below.trans (hb.mono h.below.size), h.base⟩
theorem drewN (h : Docs2 w B b1 b2 s1 s2 wr S1 S2 D1 D2) (n : Nat) : Docs2 w B b1 b2 s1 s2 (wr.drewN n) S1 S2 D1 D2 :=
  ⟨h.one.drewN n, h.two.drewN n, h.apart, below_drewN h.below n, h.base⟩
theorem swap (h : Docs2 w B b1 b2 s1 s2 wr S1 S2 D1 D2) : Docs2 w B b2 b1 s2 s1 wr S2 S1 D2 D1 :=
  ⟨h.two, h.one, fun g h1 h2 => h.apart g h2 h1, h.below, h.base⟩
/-- The first is there; the second is newly made. -/
theorem make (hw : Below w.heap.size w wr) (hB : w.heap.size ≤ B) (h1 : DocIs wr B S1 b1 s1 D1) (hb : Below wr.heap.size wr w') (h2 : DocIs w' wr.heap.size S2 b2 s2 D2) : Docs2 w B b1 b2 s1 s2 w' S1 S2 D1 D2 :=
  ⟨h1.below hb, { h2 with book := h2.book.mono h1.size, marks := h2.marks.mono h1.size, known := h2.known.mono h1.size, ops := h2.ops.mono h1.size, seen := fun y hy => (h2.seen y hy).mono h1.size, own := fun g hg => by have := h2.own g hg; have := h1.size; omega },
    fun g hg hm => by have := (h1.own g hg).2; have := (h2.own g hm).1; omega, hw.trans (hb.mono hw.size), hB⟩
end Docs2
/-- A row of ops that reads, apart from the blocks S. -/
structure OpsBy (wr : World) (S : List Nat) (V : Option Addr) (zs : List OpAt) : Prop where
  row : Reads wr wr.heap.size 6 V zs.length (ocells zs)
  far : 0 < zs.length → ∀ g ∈ ob V, g ∉ S
  each : ∀ y ∈ zs, OpFar wr S y
namespace OpsBy
variable {wr w' : World} {S S' T : List Nat} {V : Option Addr} {zs : List OpAt}
theorem only (h : OpsBy wr S V zs) (ho : Only T wr w') (hT : ∀ g ∈ T, g ∈ S ∨ wr.heap.size ≤ g) (hS : ∀ g ∈ S', g ∈ S ∨ wr.heap.size ≤ g) : OpsBy w' S' V zs := by
  have key : ∀ {size n : Nat} {A : Option Addr} {xs : List Value}, Reads wr wr.heap.size size A n xs → (0 < n → ∀ g ∈ ob A, g ∉ S) → (0 < n → ∀ g ∈ ob A, g ∉ T) ∧ (0 < n → ∀ g ∈ ob A, g ∉ S') := fun {size n A xs} hr hf => by
    have hl : 0 < n → ∀ g ∈ ob A, g < wr.heap.size := fun hn g hg => by
      obtain ⟨ad, e, hb, _⟩ := hr.2 hn
      rw [e] at hg; simp [ob] at hg; omega
    refine ⟨fun hn g hg hm => ?_, fun hn g hg hm => ?_⟩
    · rcases hT g hm with h1 | h1
      · exact hf hn g hg h1
      · have := hl hn g hg; omega
    · rcases hS g hm with h1 | h1
      · exact hf hn g hg h1
      · have := hl hn g hg; omega
  obtain ⟨k1, k2⟩ := key h.row h.far
  refine ⟨h.row.only ho k1, k2, fun y hy => ?_⟩
  obtain ⟨f1, f2, f3⟩ := h.each y hy
  obtain ⟨k3, k4⟩ := key f1 f3
  exact ⟨f1.only ho k3, f2, k4⟩
theorem below (h : OpsBy wr S V zs) (hb : Below wr.heap.size wr w') : OpsBy w' S V zs := h.only (Only.of_below (S := []) hb) (by simp) (fun g hg => .inl hg)
theorem sub (h : OpsBy wr S V zs) (hs : ∀ g ∈ S', g ∈ S) : OpsBy wr S' V zs :=
  ⟨h.row, fun hn g hg hm => h.far hn g hg (hs g hm), fun y hy => ⟨(h.each y hy).1, (h.each y hy).2.1, fun hn g hg hm => (h.each y hy).2.2 hn g hg (hs g hm)⟩⟩
theorem of_own {N : Nat} {c : Nat} (h : OwnOps wr N V c zs) (hp : ∀ o ∈ zs.map OpAt.op, o.place.size ≤ 12) (hS : ∀ g ∈ S, g < N) : OpsBy wr S V zs := by
  refine ⟨h.row.reads, fun _ g hg hm => ?_, fun y hy => ⟨(h.seen y hy).reads, ?_, fun _ g hg hm => ?_⟩⟩
  · have := (h.row.lt g hg).1; have := hS g hm; omega
  · have := hp y.op (List.mem_map.2 ⟨y, hy, rfl⟩); omega
  · have := ((h.seen y hy).lt g hg).1; have := hS g hm; omega
theorem do_ (h : OpsBy wr S V zs) {B b : Nat} {st : LDoc} {D : DLay} (hd : DocIs wr B S b st D) (ok : st.Ok) (c : Nat) (hl : zs.length ≤ 1000000) :
    Calls Tryz.prog 90 #[.pointer (some ⟨b, 0, none⟩), .slice V zs.length c] wr (DoPost wr B S b (st.doE (zs.map OpAt.op)) (st.doR (zs.map OpAt.op))) :=
  do_any wr B S b st D hd ok V c zs h.row h.far h.each (by omega)
end OpsBy
/-- Two documents to which the same ops were applied. -/
def PairAt (w : World) (B b1 b2 n : Nat) (wr : World) : Prop := ∃ st S1 S2 D1 D2, Docs2 w B b1 b2 st st wr S1 S2 D1 D2 ∧ st.Ok ∧ Says st.ops st ∧ st.ops.length ≤ n
theorem PairAt.more {w wr : World} {B b1 b2 n m : Nat} (h : PairAt w B b1 b2 n wr) (hm : n ≤ m) : PairAt w B b1 b2 m wr := by
  obtain ⟨st, S1, S2, D1, D2, h1, h2, h3, h4⟩ := h
  exact ⟨st, S1, S2, D1, D2, h1, h2, h3, by omega⟩
theorem PairAt.round {w wr : World} {B b1 b2 n : Nat} (h : PairAt w B b1 b2 n wr) {A : Option Addr} {ys : List OpAt} (hr : Reads w w.heap.size 6 A ys.length (ocells ys)) (hg : ∀ y ∈ ys, y.Good w) {k : Nat} (hk : k < ys.length) :
    ∃ ad who nn what p letter seen ya yc, A = some ad ∧ Below w.heap.size w wr ∧ Hid (∀ W, Below w.heap.size w W → W.cell? (ad.add (k * 6)) = some (.int .i64 who) ∧ W.cell? ⟨(ad.add (k * 6)).block, (ad.add (k * 6)).off + 1, none⟩ = some (.int .i64 nn) ∧ W.cell? ⟨(ad.add (k * 6)).block, (ad.add (k * 6)).off + 2, none⟩ = some (.int .i64 what) ∧
      W.cell? ⟨(ad.add (k * 6)).block, (ad.add (k * 6)).off + 3, none⟩ = some (.string p) ∧ W.cell? ⟨(ad.add (k * 6)).block, (ad.add (k * 6)).off + 4, none⟩ = some (.int .i64 letter) ∧ W.cell? ⟨(ad.add (k * 6)).block, (ad.add (k * 6)).off + 5, none⟩ = some (.slice ya seen yc)) ∧
      Hid (Calls Tryz.prog 36 #[.pointer (some ⟨b1, 0, none⟩), .agg #[.int .i64 who, .int .i64 nn, .int .i64 what, .string p, .int .i64 letter, .slice ya seen yc]] wr (fun e w1 => (∃ (is : Bool) (ke : Int), e = .returned (.tuple #[.bool is, errV ke])) ∧ Below w.heap.size w w1 ∧
        Calls Tryz.prog 36 #[.pointer (some ⟨b2, 0, none⟩), .agg #[.int .i64 who, .int .i64 nn, .int .i64 what, .string p, .int .i64 letter, .slice ya seen yc]] w1 (fun e w2 => (∃ (is : Bool) (ke : Int), e = .returned (.tuple #[.bool is, errV ke])) ∧ PairAt w B b1 b2 (n + 1) w2))) := by
  obtain ⟨st, S1, S2, D1, D2, hd, hok, hs, hl⟩ := h
  obtain ⟨ad, rfl, hcel⟩ : ∃ ad, A = some ad ∧ ∀ W, Below w.heap.size w W → W.cell? (ad.add (k * 6)) = some (.int .i64 ys[k].op.dot.who) ∧ W.cell? ⟨(ad.add (k * 6)).block, (ad.add (k * 6)).off + 1, none⟩ = some (.int .i64 ys[k].op.dot.n) ∧ W.cell? ⟨(ad.add (k * 6)).block, (ad.add (k * 6)).off + 2, none⟩ = some (.int .i64 ys[k].op.what) ∧
      W.cell? ⟨(ad.add (k * 6)).block, (ad.add (k * 6)).off + 3, none⟩ = some (.string ys[k].op.place) ∧ W.cell? ⟨(ad.add (k * 6)).block, (ad.add (k * 6)).off + 4, none⟩ = some (.int .i64 ys[k].op.letter) ∧ W.cell? ⟨(ad.add (k * 6)).block, (ad.add (k * 6)).off + 5, none⟩ = some (.slice ys[k].at_ ys[k].op.seen.length ys[k].cap) := by
    obtain ⟨ad, e, _⟩ := hr.op hk
    refine ⟨ad, e, fun W hW => ?_⟩
    obtain ⟨ad', e', _, hh⟩ := (hr.below hW).op hk
    rw [e] at e'
    injection e' with e'
    subst e'
    exact hh
  have hgood := fun W (hW : Below w.heap.size w W) => (hg _ (List.getElem_mem hk)).below hW
  have hfar : ∀ S : List Nat, (∀ g ∈ S, B ≤ g) → 0 < ys[k].op.seen.length → ∀ g ∈ ob ys[k].at_, g ∉ S := fun S hS => (hg _ (List.getElem_mem hk)).1.far (fun g hg => by have := hS g hg; have := hd.base; omega)
  have hps := (hgood wr hd.below).2.1
  have HA := apply_doc wr _ _ _ _ _ hd.one hok ys[k].op ys[k].at_ ys[k].cap (by unfold maxLen at hps; omega) (hgood wr hd.below).1 (hfar S1 (fun g hg => (hd.one.own g hg).1))
  refine ⟨ad, _, _, _, _, _, _, _, _, rfl, hd.below, hcel, HA.mono ?_⟩
  rintro e w1 ⟨rfl, ht⟩
  obtain ⟨S', D', hd', ho', _⟩ := hd.left ht
  refine ⟨⟨_, _, rfl⟩, hd'.below, ?_⟩
  have HA2 := apply_doc w1 _ _ _ _ _ hd'.two hok ys[k].op ys[k].at_ ys[k].cap (by unfold maxLen at hps; omega) (hgood w1 hd'.below).1 (hfar S2 (fun g hg => (hd'.two.own g hg).1))
  refine HA2.mono ?_
  rintro e w2 ⟨rfl, ht2⟩
  obtain ⟨S'', D'', hd'', _, _⟩ := hd'.right ht2
  refine ⟨⟨_, _, rfl⟩, _, S', S'', D', D'', hd'', LDoc.apply_ok hok _, LDoc.apply_says hok hs _, ?_⟩
  rcases LDoc.apply_three (d := st) ys[k].op with ⟨_, _, q⟩ | ⟨_, _, q⟩ | ⟨_, _, q⟩
  · rw [q]; simp; omega
  · rw [q]; omega
  · rw [q]; omega
/-- Two documents, and rows of ops apart from both. -/
def Scene (w : World) (B b1 b2 : Nat) (s1 s2 : LDoc) (rows : List (Option Addr × List OpAt)) (wr : World) : Prop :=
  ∃ S1 S2 D1 D2, Docs2 w B b1 b2 s1 s2 wr S1 S2 D1 D2 ∧ ∀ r ∈ rows, OpsBy wr (S1 ++ S2) r.1 r.2
namespace Scene
variable {w wr w' : World} {B b1 b2 : Nat} {s1 s2 s : LDoc} {rows : List (Option Addr × List OpAt)}
theorem below (h : Scene w B b1 b2 s1 s2 rows wr) : Below w.heap.size w wr := by
  obtain ⟨S1, S2, D1, D2, h1, h2⟩ := h
  exact h1.below
theorem step (h : Scene w B b1 b2 s1 s2 rows wr) (hb : Below wr.heap.size wr w') : Scene w B b1 b2 s1 s2 rows w' := by
  obtain ⟨S1, S2, D1, D2, h1, h2⟩ := h
  exact ⟨S1, S2, D1, D2, h1.step hb, fun r hr => (h2 r hr).below hb⟩
theorem drewN (h : Scene w B b1 b2 s1 s2 rows wr) (n : Nat) : Scene w B b1 b2 s1 s2 rows (wr.drewN n) := h.step (below_drewN (Below.refl _ _) n)
theorem drew (h : Scene w B b1 b2 s1 s2 rows wr) : Scene w B b1 b2 s1 s2 rows wr.drew := h.step ((Below.refl _ _).drew)
theorem swap (h : Scene w B b1 b2 s1 s2 rows wr) : Scene w B b2 b1 s2 s1 rows wr := by
  obtain ⟨S1, S2, D1, D2, h1, h2⟩ := h
  exact ⟨S2, S1, D2, D1, h1.swap, fun r hr => (h2 r hr).sub (fun g hg => by rcases List.mem_append.1 hg with h | h <;> simp [h])⟩
theorem left (h : Scene w B b1 b2 s1 s2 rows wr) {Q : LDoc → Ending → World → Prop} :
    ∃ S1 D1, DocIs wr B S1 b1 s1 D1 ∧ (∀ r ∈ rows, OpsBy wr S1 r.1 r.2) ∧ ∀ s w', DocTo wr B S1 b1 s w' → Scene w B b1 b2 s s2 rows w' := by
  obtain ⟨S1, S2, D1, D2, h1, h2⟩ := h
  refine ⟨S1, D1, h1.one, fun r hr => (h2 r hr).sub (fun g hg => by simp [hg]), fun s w' ht => ?_⟩
  obtain ⟨S', D', g1, g2, g3⟩ := h1.left ht
  refine ⟨S', S2, D', D2, g1, fun r hr => (h2 r hr).only g2 (fun g hg => .inl (by simp [hg])) (fun g hg => ?_)⟩
  rcases List.mem_append.1 hg with h | h
  · rcases g3 g h with h3 | h3
    · exact .inl (by simp [h3])
    · exact .inr h3
  · exact .inl (by simp [h])
theorem doL (h : Scene w B b1 b2 s1 s2 rows wr) (ok : s1.Ok) {V : Option Addr} {zs : List OpAt} (hr : (V, zs) ∈ rows) (c : Nat) (hl : zs.length ≤ 1000000) :
    Calls Tryz.prog 90 #[.pointer (some ⟨b1, 0, none⟩), .slice V zs.length c] wr (fun e w' => e = .returned (errV (s1.doE (zs.map OpAt.op))) ∧ Scene w B b1 b2 (s1.doR (zs.map OpAt.op)) s2 rows w') := by
  obtain ⟨S1, D1, h1, h2, h3⟩ := h.left (Q := fun _ _ _ => True)
  exact ((h2 _ hr).do_ h1 ok c hl).mono fun e w' hh => ⟨hh.1, h3 _ _ hh.2⟩
theorem doR (h : Scene w B b1 b2 s1 s2 rows wr) (ok : s2.Ok) {V : Option Addr} {zs : List OpAt} (hr : (V, zs) ∈ rows) (c : Nat) (hl : zs.length ≤ 1000000) :
    Calls Tryz.prog 90 #[.pointer (some ⟨b2, 0, none⟩), .slice V zs.length c] wr (fun e w' => e = .returned (errV (s2.doE (zs.map OpAt.op))) ∧ Scene w B b1 b2 s1 (s2.doR (zs.map OpAt.op)) rows w') :=
  (h.swap.doL ok hr c hl).mono fun e w' hh => ⟨hh.1, hh.2.swap⟩
theorem textL (h : Scene w B b1 b2 s1 s2 rows wr) (ok : s1.Ok) : Calls Tryz.prog 14 #[.pointer (some ⟨b1, 0, none⟩)] wr (fun e w' => e = .returned (.string (textOf s1.book)) ∧ Below wr.heap.size wr w' ∧ Scene w B b1 b2 s1 s2 rows w') := by
  obtain ⟨S1, D1, h1, h2, h3⟩ := h.left (Q := fun _ _ _ => True)
  exact (text_doc wr _ _ _ _ _ h1 ok).mono fun e w' ⟨g1, g2⟩ => ⟨g1, g2, h.step g2⟩
end Scene
end Go.Proofs.YthfbjfocmnikaaaGreatDoor
/- The reference's document in memory: which blocks it turns, which it only reads. Plain lemmas. Conditions: none. -/
namespace Go.Proofs.YthfbjfocmnikaaaGreatDoor
open Go.RowKit
set_option linter.unusedVariables false
/-- Where the parts of the reference's document lie. -/
structure RLay where
  a1 : Option Addr
  c1 : Nat
  a2 : Option Addr
  c2 : Nat
  a3 : Option Addr
  c3 : Nat
  a4 : Option Addr
  c4 : Nat
  ys : List OpAt
def RLay.cells (D : RLay) (st : LDoc) : Array Value := #[.slice D.a1 st.book.length D.c1, .slice D.a2 st.marks.length D.c2, .slice D.a3 st.known.length D.c3, .slice D.a4 st.ops.length D.c4]
/-- A row that is read alone: its block is one of S, or lies below B, and is none of T. -/
structure Seat (w : World) (B : Nat) (S T : List Nat) (size : Nat) (A : Option Addr) (n : Nat) (xs : List Value) : Prop where
  row : Reads w w.heap.size size A n xs
  in_ : 0 < n → ∀ g ∈ ob A, g < B ∨ g ∈ S
  out : 0 < n → ∀ g ∈ ob A, g ∉ T
namespace Seat
variable {w w' : World} {B size n : Nat} {S S' T T' U : List Nat} {A : Option Addr} {xs : List Value}
theorem only (h : Seat w B S T size A n xs) (ho : Only U w w') (hU : ∀ g ∈ U, B ≤ g ∧ g ∉ S) : Seat w' B S T size A n xs :=
  ⟨h.row.only ho fun hn g hg hm => by
    obtain ⟨h1, h2⟩ := hU g hm
    rcases h.in_ hn g hg with h3 | h3
    · omega
    · exact h2 h3, h.in_, h.out⟩
/-- What may turn has turned. -/
theorem turned (h : Seat w B S T size A n xs) (ho : Only U w w') (hU : ∀ g ∈ U, g ∈ T ∨ w.heap.size ≤ g) : Seat w' B S T size A n xs :=
  ⟨h.row.only ho fun hn g hg hm => by
    obtain ⟨ad, e, hb, _⟩ := h.row.2 hn
    rcases hU g hm with h3 | h3
    · exact h.out hn g hg h3
    · rw [e] at hg; simp [ob] at hg; omega, h.in_, h.out⟩
theorem lt (h : Seat w B S T size A n xs) (hn : 0 < n) : ∀ g ∈ ob A, g < w.heap.size := fun g hg => by
  obtain ⟨ad, e, hb, _⟩ := h.row.2 hn
  rw [e] at hg; simp [ob] at hg; omega
theorem more (h : Seat w B S T size A n xs) (hS : ∀ g ∈ S, g ∈ S') (hT : ∀ g ∈ T', g ∈ T ∨ w.heap.size ≤ g) : Seat w B S' T' size A n xs :=
  ⟨h.row, fun hn g hg => (h.in_ hn g hg).imp id (hS g), fun hn g hg hm => by
    rcases hT g hm with h1 | h1
    · exact h.out hn g hg h1
    · have := h.lt hn g hg; omega⟩
theorem of_own {N c : Nat} {e : TypeId} (h : Own w N e size A n c xs) (hS : ∀ g ∈ ob A, g ∈ S) (hT : ∀ g ∈ T, g < N) : Seat w B S T size A n xs :=
  ⟨h.reads, fun _ g hg => .inr (hS g hg), fun _ g hg hm => by have := (h.lt g hg).1; have := hT g hm; omega⟩
end Seat
/-- The blocks that the reference's document turns. -/
def RLay.turns (D : RLay) (b : Nat) : List Nat := b :: (ob D.a3 ++ ob D.a4)
structure RDocIs (w : World) (B : Nat) (S : List Nat) (b : Nat) (st : LDoc) (D : RLay) : Prop where
  blk : Blk w b 53 (D.cells st)
  book : Seat w B S (D.turns b) 3 D.a1 st.book.length (lcells st.book)
  bookc : st.book.length ≤ D.c1 ∧ D.c1 ≤ 9223372036854775807
  marks : Seat w B S (D.turns b) 3 D.a2 st.marks.length (mcells st.marks)
  marksc : st.marks.length ≤ D.c2 ∧ D.c2 ≤ 9223372036854775807
  known : Own w B 3 1 D.a3 st.known.length D.c3 (ints st.known)
  ops : Own w B 30 6 D.a4 st.ops.length D.c4 (ocells D.ys)
  same : D.ys.map OpAt.op = st.ops
  seen : ∀ y ∈ D.ys, Seat w B S (D.turns b) 2 y.at_ y.op.seen.length (dcells y.op.seen)
  sub : ∀ g ∈ D.turns b, g ∈ S
  own : ∀ g ∈ S, B ≤ g ∧ g < w.heap.size
/-- What a step leaves: another document, only its blocks turned. -/
def RDocTo (w : World) (B : Nat) (S : List Nat) (b : Nat) (D : RLay) (st : LDoc) (w' : World) : Prop :=
  ∃ S' D', RDocIs w' B S' b st D' ∧ Only (D.turns b) w w' ∧ (∀ g ∈ S', g ∈ S ∨ w.heap.size ≤ g) ∧ (∀ g ∈ D'.turns b, g ∈ D.turns b ∨ w.heap.size ≤ g) ∧ D'.a3 = D.a3 ∧ D'.c3 = D.c3
namespace RDocIs
variable {w w' : World} {B : Nat} {S T : List Nat} {b : Nat} {st : LDoc} {D : RLay}
theorem only (h : RDocIs w B S b st D) (ho : Only T w w') (hT : ∀ g ∈ T, B ≤ g ∧ g ∉ S) : RDocIs w' B S b st D where
  blk := ho.blk h.blk (fun hm => (hT _ hm).2 (h.sub _ (by simp [RLay.turns])))
  book := h.book.only ho hT
  bookc := h.bookc
  marks := h.marks.only ho hT
  marksc := h.marksc
  known := h.known.only ho (fun g hg hm => (hT g hm).2 (h.sub g (by simp [RLay.turns, hg])))
  ops := h.ops.only ho (fun g hg hm => (hT g hm).2 (h.sub g (by simp [RLay.turns, hg])))
  same := h.same
  seen := fun y hy => (h.seen y hy).only ho hT
  sub := h.sub
  own := fun g hg => ⟨(h.own g hg).1, Nat.lt_of_lt_of_le (h.own g hg).2 ho.size⟩
theorem below (h : RDocIs w B S b st D) (hb : Below w.heap.size w w') : RDocIs w' B S b st D := h.only (T := []) (Only.of_below hb) (by simp)
theorem drewN (h : RDocIs w B S b st D) (n : Nat) : RDocIs (w.drewN n) B S b st D := h.below (below_drewN (Below.refl _ _) n)
theorem ys_len (h : RDocIs w B S b st D) : D.ys.length = st.ops.length := by rw [← h.same, List.length_map]
theorem b4 (h : RDocIs w B S b st D) : b ∉ ob D.a4 := h.ops.blk_ne h.blk (by decide)
theorem b3 (h : RDocIs w B S b st D) : b ∉ ob D.a3 := h.known.blk_ne h.blk (by decide)
theorem to_self (h : RDocIs w B S b st D) (hb : Below w.heap.size w w') : RDocTo w B S b D st w' := ⟨S, D, h.below hb, Only.of_below hb, fun g hg => .inl hg, fun g hg => .inl hg, rfl, rfl⟩
theorem mono {B' : Nat} (h : RDocIs w B S b st D) (hB : ∀ g ∈ S, B' ≤ g) (hh : B ≤ B') : RDocIs w B' S b st D :=
  { h with
    book := ⟨h.book.row, fun hn g hg => (h.book.in_ hn g hg).imp (by omega) id, h.book.out⟩
    marks := ⟨h.marks.row, fun hn g hg => (h.marks.in_ hn g hg).imp (by omega) id, h.marks.out⟩
    known := by
      rcases h.known with ⟨h1, h2⟩
      refine ⟨h1, ?_⟩
      rcases h2 with h2 | ⟨g, cap, cur, hv, hb, hr⟩
      · exact .inl h2
      · exact .inr ⟨g, cap, cur, hv, hB g (h.sub g (by injection hv with hv; simp [RLay.turns, hv, ob])), hr⟩
    ops := by
      rcases h.ops with ⟨h1, h2⟩
      refine ⟨h1, ?_⟩
      rcases h2 with h2 | ⟨g, cap, cur, hv, hb, hr⟩
      · exact .inl h2
      · exact .inr ⟨g, cap, cur, hv, hB g (h.sub g (by injection hv with hv; simp [RLay.turns, hv, ob])), hr⟩
    seen := fun y hy => ⟨(h.seen y hy).row, fun hn g hg => ((h.seen y hy).in_ hn g hg).imp (by omega) id, (h.seen y hy).out⟩
    own := fun g hg => ⟨hB g hg, (h.own g hg).2⟩ }
end RDocIs
/-- The program's document and the reference's, beside each other. -/
structure Twin (w : World) (B b1 b2 : Nat) (s1 s2 : LDoc) (wr : World) (S1 S2 : List Nat) (D1 : DLay) (D2 : RLay) : Prop where
  one : DocIs wr B S1 b1 s1 D1
  two : RDocIs wr B S2 b2 s2 D2
  apart : ∀ g ∈ S1, g ∉ S2
  below : Below w.heap.size w wr
  base : w.heap.size ≤ B
namespace Twin
variable {w wr w' : World} {B b1 b2 : Nat} {s1 s2 s : LDoc} {S1 S2 : List Nat} {D1 : DLay} {D2 : RLay}
theorem left (h : Twin w B b1 b2 s1 s2 wr S1 S2 D1 D2) (ht : DocTo wr B S1 b1 s w') : ∃ S' D', Twin w B b1 b2 s s2 w' S' S2 D' D2 ∧ Only S1 wr w' ∧ ∀ g ∈ S', g ∈ S1 ∨ wr.heap.size ≤ g := by
  obtain ⟨S', D', h1, h2, h3⟩ := ht
  refine ⟨S', D', ⟨h1, h.two.only h2 (fun g hg => ⟨(h.one.own g hg).1, h.apart g hg⟩), fun g hg hm => ?_, h.below.trans (h2.below h.below.size (fun g hg => by have := (h.one.own g hg).1; have := h.base; omega)), h.base⟩, h2, h3⟩
  rcases h3 g hg with h4 | h4
  · exact h.apart g h4 hm
  · have := (h.two.own g hm).2; omega
theorem right (h : Twin w B b1 b2 s1 s2 wr S1 S2 D1 D2) (ht : RDocTo wr B S2 b2 D2 s w') : ∃ S' D', Twin w B b1 b2 s1 s w' S1 S' D1 D' ∧ Only (D2.turns b2) wr w' ∧ ∀ g ∈ S', g ∈ S2 ∨ wr.heap.size ≤ g := by
  obtain ⟨S', D', h1, h2, h3, _⟩ := ht
  refine ⟨S', D', ⟨h.one.only h2 (fun g hg hm => h.apart g hm (h.two.sub g hg)), h1, fun g hg hm => ?_, h.below.trans (h2.below h.below.size (fun g hg => by have := (h.two.own g (h.two.sub g hg)).1; have := h.base; omega)), h.base⟩, h2, h3⟩
  rcases h3 g hm with h4 | h4
  · exact h.apart g hg h4
  · have := (h.one.own g hg).2; omega
theorem step (h : Twin w B b1 b2 s1 s2 wr S1 S2 D1 D2) (hb : Below wr.heap.size wr w') : Twin w B b1 b2 s1 s2 w' S1 S2 D1 D2 :=
  ⟨h.one.below hb, h.two.below hb, h.apart, h.below.trans (hb.mono h.below.size), h.base⟩
theorem drewN (h : Twin w B b1 b2 s1 s2 wr S1 S2 D1 D2) (n : Nat) : Twin w B b1 b2 s1 s2 (wr.drewN n) S1 S2 D1 D2 := h.step (below_drewN (Below.refl _ _) n)
/-- The program's is there; the reference's is newly made. -/
theorem make (hw : Below w.heap.size w wr) (hB : w.heap.size ≤ B) (h1 : DocIs wr B S1 b1 s1 D1) (hb : Below wr.heap.size wr w') (h2 : RDocIs w' B S2 b2 s2 D2) (hS : ∀ g ∈ S2, wr.heap.size ≤ g) : Twin w B b1 b2 s1 s2 w' S1 S2 D1 D2 :=
  ⟨h1.below hb, h2, fun g hg hm => by have := (h1.own g hg).2; have := hS g hm; omega, hw.trans (hb.mono hw.size), hB⟩
end Twin
end Go.Proofs.YthfbjfocmnikaaaGreatDoor
/- (*leafref2.Doc).seen, New, walked. Conditions: the document is right. -/
namespace Go.Proofs.YthfbjfocmnikaaaGreatDoor
open Go.RowKit
set_option linter.unusedVariables false
def sawOp (p : ByteArray) (x : LDot) (o : LOp) : Bool := decide (o.what = 4) && (decide (o.place = p) && inD o.seen x)
def SawLoop (w : World) (l : List LOp) (p : ByteArray) (x : LDot) (i : Value) (wr : World) : Prop := ∃ k : Nat, k ≤ l.length ∧ i = .int .i64 k ∧ Hid (Below w.heap.size w wr) ∧ Hid ((l.take k).any (sawOp p x) = false)
section
variable (w : World) (B : Nat) (S : List Nat) (b : Nat) (st : LDoc) (D : RLay) (h : RDocIs w B S b st D) (ok : st.Ok)
include h ok
set_option maxRecDepth 100000 in
set_option maxHeartbeats 4000000 in
theorem rseen_doc (p : ByteArray) (x : LDot) : Calls Tryz.prog 70 #[.pointer (some ⟨b, 0, none⟩), .string p, .agg #[.int .i64 x.who, .int .i64 x.n]] w (CheckPost w (.bool (st.ops.any (sawOp p x)))) := by
  obtain ⟨W0, hW0⟩ : ∃ W0, W0 = w.alloc (.cells #[.int .i64 x.who, .int .i64 x.n] 27) := ⟨_, rfl⟩
  have HB0 : Hid (Below w.heap.size w W0) := by rw [hW0]; exact (Below.refl _ _).alloc (Nat.le_refl _) _
  have HX : Hid (Blk W0 w.heap.size 27 #[.int .i64 x.who, .int .i64 x.n]) := by rw [hW0]; exact Blk.new w 27 #[.int .i64 x.who, .int .i64 x.n]
  have HSZ : Hid (W0.heap.size = w.heap.size + 1) := by rw [hW0]; exact World.size_alloc _ _
  have HD := Lib.hid (h.below HB0.out)
  have HYL := Lib.hid h.ys_len
  have HSM := Lib.hid h.same
  have HOK := Lib.hid ok
  have few := ok.few
  clear h ok
  go_enter Tryz.func70, Tryz.ntmps70
  go_wp2_with fail
  rw [← hW0]
  clear hW0
  go_loopw [7] (fun i wr => SawLoop W0 st.ops p x i wr) (fun i _ => st.ops.length - (intOf i).toNat)
  case atStart => exact ⟨0, by omega, rfl, Below.refl _ _, rfl⟩
  case round =>
    obtain ⟨k, hk, rfl, HBr, HN⟩ := hrel
    have c3 : wr.cell? ⟨b, 3, none⟩ = some (.slice D.a4 st.ops.length D.c4) := by rw [(HD.out.below HBr.out).blk.cell]; rfl
    by_cases hkn : k < st.ops.length
    · have hky : k < D.ys.length := by rw [HYL.out]; exact hkn
      have hops := (HD.out.below HBr.out).ops.reads
      rw [← HYL.out] at hops
      obtain ⟨ad, ha, hab, e0, e1, e2, e3, e4, e5⟩ := hops.op hky
      have hoy : D.ys[k].op = st.ops[k] := by
        have h2 : (D.ys.map OpAt.op)[k]? = st.ops[k]? := by rw [HSM.out]
        rw [List.getElem?_map, List.getElem?_eq_getElem hky, List.getElem?_eq_getElem hkn] at h2
        simpa using h2
      have hseat := ((HD.out.below HBr.out).seen _ (List.getElem_mem hky)).row
      have hgood := (op_ok (HOK.out.ops _ (List.getElem_mem hkn)).1).2.2.2.2.2.2.1
      have HST : Hid ((st.ops.take (k + 1)).any (sawOp p x) = sawOp p x st.ops[k]) := by
        show _ = _
        rw [List.take_succ_eq_append_getElem hkn, List.any_append, HN.out]; simp
      have HALL : Hid (sawOp p x st.ops[k] = true → st.ops.any (sawOp p x) = true) := fun hh => List.any_eq_true.2 ⟨_, List.getElem_mem hkn, hh⟩
      rw [hoy] at e0 e1 e2 e3 e4 e5 hseat
      generalize D.ys[k].at_ = ya at *
      generalize D.ys[k].cap = yc at *
      clear hoy hops
      generalize st.ops[k] = o at *
      obtain ⟨⟨who, n⟩, what, place, letter, seen⟩ := o
      simp only at e0 e1 e2 e3 e4 e5 hseat hgood
      rw [ha] at c3
      have k0 : (0 : Int) ≤ (k : Int) := by omega
      have k1 : (k : Int) < (st.ops.length : Int) := by omega
      have HBK : Hid (Blk (wr.alloc (.cells #[.int .i64 who, .int .i64 n, .int .i64 what, .string place, .int .i64 letter, .slice ya seen.length yc] 30)) wr.heap.size 30 _) := Blk.new wr 30 #[.int .i64 who, .int .i64 n, .int .i64 what, .string place, .int .i64 letter, .slice ya seen.length yc]
      have HBa := Lib.hid (HBr.out.alloc HBr.out.size (.cells #[.int .i64 who, .int .i64 n, .int .i64 what, .string place, .int .i64 letter, .slice ya seen.length yc] 30))
      have HIN := Lib.hid (fun W (hb : Below wr.heap.size wr W) => rin_any W ya yc seen x ((hseat.below hb).more hb.size) (by omega))
      have HWB : Hid (Below wr.heap.size wr (wr.alloc (.cells #[.int .i64 who, .int .i64 n, .int .i64 what, .string place, .int .i64 letter, .slice ya seen.length yc] 30))) := (Below.refl _ _).alloc (Nat.le_refl _) _
      have f1 : (wr.alloc (.cells #[.int .i64 who, .int .i64 n, .int .i64 what, .string place, .int .i64 letter, .slice ya seen.length yc] 30)).cell? ⟨wr.heap.size, 5, none⟩ = some (.slice ya seen.length yc) := by rw [HBK.out.cell]; rfl
      have x0 : (wr.alloc (.cells #[.int .i64 who, .int .i64 n, .int .i64 what, .string place, .int .i64 letter, .slice ya seen.length yc] 30)).cell? ⟨w.heap.size, 0, none⟩ = some (.int .i64 x.who) := by rw [((HX.out.below HBr.out (by have := HSZ.out; omega)).below HWB.out (by have := HBr.out.size; have := HSZ.out; omega)).cell]; rfl
      have x1 : (wr.alloc (.cells #[.int .i64 who, .int .i64 n, .int .i64 what, .string place, .int .i64 letter, .slice ya seen.length yc] 30)).cell? ⟨w.heap.size, 1, none⟩ = some (.int .i64 x.n) := by rw [((HX.out.below HBr.out (by have := HSZ.out; omega)).below HWB.out (by have := HBr.out.size; have := HSZ.out; omega)).cell]; rfl
      clear hseat
      go_wp2_with fail
      refine (HIN.out _ HWB.out).mono ?_
      rintro e w3 ⟨rfl, hb3⟩
      have g1 : w3.cell? ⟨wr.heap.size, 2, none⟩ = some (.int .i64 what) := by rw [(HBK.out.below hb3 (by simp)).cell]; rfl
      have g2 : w3.cell? ⟨wr.heap.size, 3, none⟩ = some (.string place) := by rw [(HBK.out.below hb3 (by simp)).cell]; rfl
      have HB3 := Lib.hid (HBa.out.trans (hb3.mono HBa.out.size))
      clear hb3 f1 x0 x1 HIN
      by_cases hw : what = 4
      · subst hw
        by_cases hp : place = p
        · subst hp
          have gp : (place.toList == place.toList) = true := by simp
          cases hin : inD seen x with
          | true =>
            have HA := Lib.hid (HALL.out (by unfold sawOp; simp [hin]))
            go_wp2_with fail
            go_ret
            exact ⟨by rw [HA.out]; rfl, HB0.out.trans (HB3.out.mono (by have := HSZ.out; omega))⟩
          | false =>
            have HF : Hid (_ = false) := HST.out.trans (by unfold sawOp; simp [hin])
            go_wp2_with fail
            go_roundw
            case rel => exact ⟨k + 1, by omega, by go_num, HB3, HF⟩
            case measure => simp [intOf]; omega
        · have gp : (place.toList == p.toList) = false := by rw [beq_eq_false_iff_ne]; exact fun h => hp (tl_inj h)
          have HF : Hid (_ = false) := HST.out.trans (by unfold sawOp; simp [hp])
          go_wp2_with fail
          go_roundw
          case rel => exact ⟨k + 1, by omega, by go_num, HB3, HF⟩
          case measure => simp [intOf]; omega
      · have gw : (what == 4) = false := by simpa using hw
        have HF : Hid (_ = false) := HST.out.trans (by unfold sawOp; simp [hw])
        go_wp2_with fail
        go_roundw
        case rel => exact ⟨k + 1, by omega, by go_num, HB3, HF⟩
        case measure => simp [intOf]; omega
    · have k1 : ¬ (k : Int) < (st.ops.length : Int) := by omega
      have HE : Hid (st.ops.any (sawOp p x) = false) := by
        have := HN.out
        rwa [List.take_of_length_le (by omega)] at this
      go_wp2_with fail
      go_ret
      exact ⟨by rw [HE.out]; rfl, HB0.out.trans (HBr.out.mono (by have := HSZ.out; omega))⟩
end
end Go.Proofs.YthfbjfocmnikaaaGreatDoor
/- The reference's document: its parts laid anew. Plain lemmas. Conditions: none. -/
namespace Go.Proofs.YthfbjfocmnikaaaGreatDoor
open Go.RowKit
set_option linter.unusedVariables false
namespace RDocIs
variable {w w' : World} {B : Nat} {S S' T : List Nat} {b : Nat} {st : LDoc} {D : RLay}
theorem setBook (h : RDocIs w B S b st D) (hS : ∀ g ∈ S, g ∈ S') (hO : ∀ g ∈ S', B ≤ g ∧ g < w.heap.size) {V : Option Addr} {c : Nat} {l : List LLeaf} (hV : Seat w B S' (D.turns b) 3 V l.length (lcells l)) (hc : l.length ≤ c ∧ c ≤ 9223372036854775807) :
    RDocIs (w.setCell ⟨b, 0, none⟩ (.slice V l.length c)) B S' b { st with book := l } { D with a1 := V, c1 := c } := by
  have ho : Only [b] w (w.setCell ⟨b, 0, none⟩ (.slice V l.length c)) := (Only.refl _ _).setCell (.inl (by simp)) _
  have hU : ∀ g ∈ [b], g ∈ D.turns b ∨ w.heap.size ≤ g := by simp [RLay.turns]
  refine ⟨h.blk.set_ 0 _, hV.turned ho hU, hc, (h.marks.turned ho hU).more hS (fun g hg => .inl hg), h.marksc, h.known.only ho (fun g hg hm => ?_), h.ops.only ho (fun g hg hm => ?_), h.same, fun y hy => ((h.seen y hy).turned ho hU).more hS (fun g hg => .inl hg), fun g hg => hS g (h.sub g hg), fun g hg => ⟨(hO g hg).1, Nat.lt_of_lt_of_le (hO g hg).2 ho.size⟩⟩
  · simp at hm; subst hm; exact h.b3 hg
  · simp at hm; subst hm; exact h.b4 hg
theorem setMarks (h : RDocIs w B S b st D) (hS : ∀ g ∈ S, g ∈ S') (hO : ∀ g ∈ S', B ≤ g ∧ g < w.heap.size) {V : Option Addr} {c : Nat} {l : List LMark} (hV : Seat w B S' (D.turns b) 3 V l.length (mcells l)) (hc : l.length ≤ c ∧ c ≤ 9223372036854775807) :
    RDocIs (w.setCell ⟨b, 1, none⟩ (.slice V l.length c)) B S' b { st with marks := l } { D with a2 := V, c2 := c } := by
  have ho : Only [b] w (w.setCell ⟨b, 1, none⟩ (.slice V l.length c)) := (Only.refl _ _).setCell (.inl (by simp)) _
  have hU : ∀ g ∈ [b], g ∈ D.turns b ∨ w.heap.size ≤ g := by simp [RLay.turns]
  refine ⟨h.blk.set_ 1 _, (h.book.turned ho hU).more hS (fun g hg => .inl hg), h.bookc, hV.turned ho hU, hc, h.known.only ho (fun g hg hm => ?_), h.ops.only ho (fun g hg hm => ?_), h.same, fun y hy => ((h.seen y hy).turned ho hU).more hS (fun g hg => .inl hg), fun g hg => hS g (h.sub g hg), fun g hg => ⟨(hO g hg).1, Nat.lt_of_lt_of_le (hO g hg).2 ho.size⟩⟩
  · simp at hm; subst hm; exact h.b3 hg
  · simp at hm; subst hm; exact h.b4 hg
theorem a3_blk (h : RDocIs w B S b st D) {g : Nat} (hg : D.a3 = some ⟨g, 0, none⟩) : ∃ cs, Blk w g 3 cs := by
  rcases h.known.2 with ⟨h2, _⟩ | ⟨g', cap, cur, he, _, hh, _⟩
  · injection h2 with h2; rw [hg] at h2; cases h2
  · injection he with he
    rw [hg] at he
    injection he with he
    injection he with he
    subst he
    exact ⟨cur, hh⟩
theorem a34 (h : RDocIs w B S b st D) {g : Nat} (hg : D.a3 = some ⟨g, 0, none⟩) : g ∉ ob D.a4 := by
  obtain ⟨cs, hh⟩ := h.a3_blk hg
  exact h.ops.blk_ne hh (by decide)
theorem setKnown (h : RDocIs w B S b st D) {g k : Nat} (hg : D.a3 = some ⟨g, 0, none⟩) (hk : k < st.known.length) (n : Int) :
    RDocIs (w.setCell ⟨g, k, none⟩ (.int .i64 n)) B S b { st with known := st.known.set k n } D := by
  have ho : Only [g] w (w.setCell ⟨g, k, none⟩ (.int .i64 n)) := (Only.refl _ _).setCell (.inl (by simp)) _
  have hgT : g ∈ D.turns b := by unfold RLay.turns; rw [hg]; simp [ob]
  have hU : ∀ x ∈ [g], x ∈ D.turns b ∨ w.heap.size ≤ x := by intro x hx; simp at hx; subst hx; exact .inl hgT
  refine ⟨?_, h.book.turned ho hU, h.bookc, h.marks.turned ho hU, h.marksc, ?_, h.ops.only ho (fun x hx hm => ?_), h.same, fun y hy => (h.seen y hy).turned ho hU, h.sub, fun x hx => ⟨(h.own x hx).1, Nat.lt_of_lt_of_le (h.own x hx).2 ho.size⟩⟩
  · have : D.cells { st with known := st.known.set k n } = D.cells st := by unfold RLay.cells; simp
    rw [this]
    exact ho.blk h.blk (by simp; intro e; exact h.b3 (by rw [hg]; simp [ob, e]))
  · have hk2 := h.known
    rw [hg] at hk2
    have := hk2.store hk (.int .i64 n)
    rw [ints_set] at this
    rw [hg]
    simpa using this
  · simp at hm; subst hm; exact h.a34 hg hx
theorem addOp (h : RDocIs w B S b st D) {y : OpAt} (hy : Seat w B S (D.turns b) 2 y.at_ y.op.seen.length (dcells y.op.seen)) {V : Option Addr} {c : Nat} {w1 : World}
    (hV : Own w1 B 30 6 V (st.ops.length + 1) c (ocells D.ys ++ y.cells)) (ho1 : Only (ob D.a4) w w1) (hg : ∀ g ∈ ob V, g ∈ ob D.a4 ∨ g = w.heap.size) :
    RDocIs (w1.setCell ⟨b, 3, none⟩ (.slice V (st.ops.length + 1) c)) B (ob V ++ S) b { st with ops := st.ops ++ [y.op] } { D with a4 := V, c4 := c, ys := D.ys ++ [y] } := by
  have ho2 : Only [b] w1 (w1.setCell ⟨b, 3, none⟩ (.slice V (st.ops.length + 1) c)) := (Only.refl _ _).setCell (.inl (by simp)) _
  have hb1 := ho1.blk h.blk h.b4
  have ho : Only (ob D.a4 ++ [b]) w (w1.setCell ⟨b, 3, none⟩ (.slice V (st.ops.length + 1) c)) := (ho1.mono (by intro i hi; simp [hi])).trans (ho2.mono (by intro i hi; simp at hi; simp [hi]))
  have hU : ∀ g ∈ ob D.a4 ++ [b], g ∈ D.turns b ∨ w.heap.size ≤ g := by
    intro g hg
    unfold RLay.turns
    rcases List.mem_append.1 hg with h1 | h1
    · exact .inl (by simp [h1])
    · simp at h1; subst h1; exact .inl (by simp)
  have e : (st.ops ++ [y.op]).length = st.ops.length + 1 := by simp
  have hT : ∀ g ∈ RLay.turns { D with a4 := V, c4 := c, ys := D.ys ++ [y] } b, g ∈ D.turns b ∨ w.heap.size ≤ g := by
    intro g hm
    unfold RLay.turns at hm ⊢
    simp only [List.mem_cons, List.mem_append] at hm ⊢
    rcases hm with h1 | h1 | h1
    · exact .inl (.inl h1)
    · exact .inl (.inr (.inl h1))
    · rcases hg g h1 with h2 | h2
      · exact .inl (.inr (.inr h2))
      · exact .inr (by omega)
  have hS : ∀ g ∈ S, g ∈ ob V ++ S := fun g hg => by simp [hg]
  have key : ∀ {n size : Nat} {A : Option Addr} {xs : List Value}, Seat w B S (D.turns b) size A n xs → Seat (w1.setCell ⟨b, 3, none⟩ (.slice V (st.ops.length + 1) c)) B (ob V ++ S) (RLay.turns { D with a4 := V, c4 := c, ys := D.ys ++ [y] } b) size A n xs := fun {n size A xs} hh =>
    ⟨(hh.turned ho hU).row, (hh.more hS hT).in_, (hh.more hS hT).out⟩
  refine ⟨?_, key h.book, h.bookc, key h.marks, h.marksc, ?_, ?_, ?_, ?_, ?_, ?_⟩
  · have := hb1.set_ 3 (.slice V (st.ops.length + 1) c)
    unfold RLay.cells
    simp only [e]
    exact this
  · refine h.known.only ho (fun g hg hm => ?_)
    rcases List.mem_append.1 hm with h1 | h1
    · obtain ⟨g', hg'⟩ : ∃ g', D.a3 = some ⟨g', 0, none⟩ := by
        rcases h.known.2 with ⟨h2, _⟩ | ⟨g', cap, cur, he, _⟩
        · injection h2 with h2; rw [h2] at hg; simp [ob] at hg
        · injection he with he; exact ⟨g', he⟩
      rw [hg'] at hg
      simp [ob] at hg
      subst hg
      exact h.a34 hg' h1
    · simp at h1; subst h1; exact h.b3 hg
  · simp only [e]
    have : ocells (D.ys ++ [y]) = ocells D.ys ++ y.cells := by simp [ocells]
    rw [this]
    exact hV.only ho2 (fun g hg hm => hV.blk_ne hb1 (by decide) (by simp at hm; exact hm ▸ hg))
  · simp [h.same]
  · intro z hz
    rcases List.mem_append.1 hz with hz | hz
    · exact key (h.seen z hz)
    · simp at hz; subst hz
      exact key hy
  · intro g hg'
    unfold RLay.turns at hg'
    simp only [List.mem_cons, List.mem_append] at hg' ⊢
    rcases hg' with h1 | h1 | h1
    · exact .inr (h.sub g (by simp [RLay.turns, h1]))
    · exact .inr (h.sub g (by simp [RLay.turns, h1]))
    · exact .inl h1
  · intro g hg'
    rcases List.mem_append.1 hg' with h1 | h1
    · exact ⟨(hV.lt g h1).1, Nat.lt_of_lt_of_le (hV.lt g h1).2 ho2.size⟩
    · exact ⟨(h.own g h1).1, Nat.lt_of_lt_of_le (h.own g h1).2 ho.size⟩
end RDocIs
theorem RDocIs.congr {w : World} {B : Nat} {S : List Nat} {b : Nat} {st s2 : LDoc} {D : RLay} (h : RDocIs w B S b st D) (e1 : s2.book = st.book) (e2 : s2.marks = st.marks) (e3 : s2.known = st.known) (e4 : s2.ops = st.ops) : RDocIs w B S b s2 D := by
  have hc : D.cells s2 = D.cells st := by unfold RLay.cells; rw [e1, e2, e3, e4]
  exact ⟨by rw [hc]; exact h.blk, by rw [e1]; exact h.book, by rw [e1]; exact h.bookc, by rw [e2]; exact h.marks, by rw [e2]; exact h.marksc, by rw [e3]; exact h.known, by rw [e4]; exact h.ops, by rw [e4]; exact h.same, h.seen, h.sub, h.own⟩
theorem far_drew2 {w : World} {p q : Addr} {u : Value} {x : Option Value} (hc : w.cell? q = x) (h : p.block ≠ q.block) : (w.setCell p u).drew.cell? q = x := by
  rw [World.cell?_drew, World.cell?_setCell_other _ _ _ _ (fun e => h (by rw [e]))]; exact hc
/-- An op more, at the end of a step: all that turned was the document's. -/
theorem rapply_close {w W7 w8 : World} {B : Nat} {S S' : List Nat} {b : Nat} {st s3 : LDoc} {D D3 : RLay} {o : LOp} {A V : Option Addr} {c cV : Nat} {cs : Array Value}
    (h : RDocIs w B S b st D) (ho : Only (D.turns b) w W7) (hT : D3.turns b = D.turns b) (h33 : D3.a3 = D.a3 ∧ D3.c3 = D.c3) (hd : RDocIs W7 B S' b s3 D3) (hS : ∀ g ∈ S', g ∈ S ∨ w.heap.size ≤ g) (hy : Seat w B S (D.turns b) 2 A o.seen.length (dcells o.seen)) (hSS : ∀ g ∈ S, g ∈ S')
    (hV : Own w8 B 30 6 V (s3.ops.length + 1) cV (ocells D3.ys ++ OpAt.cells ⟨o, A, c⟩)) (hL : Only (ob D3.a4) (W7.drew.alloc (.cells cs 30)) w8) (hg : ∀ g ∈ ob V, g ∈ ob D3.a4 ∨ g = (W7.drew.alloc (.cells cs 30)).heap.size) :
    RDocTo w B S b D { s3 with ops := s3.ops ++ [o] } (w8.setCell ⟨b, 3, none⟩ (.slice V (s3.ops.length + 1) cV)) := by
  have hb1 : Below W7.heap.size W7 (W7.drew.alloc (.cells cs 30)) := ((Below.refl _ _).drew).alloc (Nat.le_refl _) _
  have ho1 : Only (D.turns b) w (W7.drew.alloc (.cells cs 30)) := ho.trans (Only.of_below hb1)
  have hd1 := hd.below hb1
  generalize W7.drew.alloc (.cells cs 30) = W8 at *
  have hy2 : Seat W8 B S' (D3.turns b) 2 A o.seen.length (dcells o.seen) := by
    have := (hy.turned ho1 (fun g hg => .inl hg)).more hSS (T' := D3.turns b) (fun g hg => .inl (by rw [← hT]; exact hg))
    exact this
  have hfin := hd1.addOp (y := ⟨o, A, c⟩) hy2 hV hL hg
  have h78 := ho1.size
  have hsub : ∀ g ∈ ob D3.a4, g ∈ D.turns b := fun g hg => by rw [← hT]; unfold RLay.turns; simp [hg]
  refine ⟨_, _, hfin, (ho1.trans (hL.mono (fun i hi => .inl (hsub i hi)))).trans ((Only.refl _ _).setCell (.inl (by simp [RLay.turns])) _), fun g hg' => ?_, fun g hg' => ?_, h33.1, h33.2⟩
  · rcases List.mem_append.1 hg' with h1 | h1
    · rcases hg g h1 with h2 | h2
      · exact .inl (h.sub g (hsub g h2))
      · exact .inr (by omega)
    · exact hS g h1
  · rcases List.mem_cons.1 hg' with h1 | h1
    · exact .inl (by rw [h1]; simp [RLay.turns])
    · rcases List.mem_append.1 h1 with h2 | h2
      · exact .inl (by rw [← hT]; unfold RLay.turns; simp only [List.mem_cons, List.mem_append]; exact .inr (.inl h2))
      · rcases hg g h2 with h3 | h3
        · exact .inl (hsub g h3)
        · exact .inr (by omega)
/-- What the reference's step on the book and the marks gives. -/
structure RTurn (w : World) (B : Nat) (S : List Nat) (b : Nat) (st : LDoc) (D : RLay) (o : LOp) (V1 : Option Addr) (d1 : Nat) (l1 : List LLeaf) (V2 : Option Addr) (d2 : Nat) (l2 : List LMark) (S' : List Nat) (wx : World) : Prop where
  ok : st.turnE o = 0 → l1 = (st.turn o).book ∧ l2 = (st.turn o).marks
  below : Below w.heap.size w wx
  sub : ∀ g ∈ S, g ∈ S'
  new_ : ∀ g ∈ S', g ∈ S ∨ w.heap.size ≤ g
  own : ∀ g ∈ S', B ≤ g ∧ g < wx.heap.size
  book : Seat wx B S' (D.turns b) 3 V1 l1.length (lcells l1)
  bookc : l1.length ≤ d1 ∧ d1 ≤ 9223372036854775807
  marks : Seat wx B S' (D.turns b) 3 V2 l2.length (mcells l2)
  marksc : l2.length ≤ d2 ∧ d2 ≤ 9223372036854775807
namespace RTurn
variable {w wx : World} {B : Nat} {S S' : List Nat} {b : Nat} {st : LDoc} {D : RLay} {o : LOp}
theorem stays (h : RDocIs w B S b st D) (hb : Below w.heap.size w wx) (hm : st.turnE o = 0 → st.book = (st.turn o).book ∧ st.marks = (st.turn o).marks) : RTurn w B S b st D o D.a1 D.c1 st.book D.a2 D.c2 st.marks S wx :=
  let h' := h.below hb
  ⟨hm, hb, fun g hg => hg, fun g hg => .inl hg, h'.own, h'.book, h'.bookc, h'.marks, h'.marksc⟩
theorem book_ (h : RDocIs w B S b st D) (hb : Below w.heap.size w wx) {V : Option Addr} {c : Nat} {l : List LLeaf} (hV : Own wx w.heap.size 115 3 V l.length c (lcells l)) (hB : B ≤ w.heap.size) (hm : st.turnE o = 0 → l = (st.turn o).book ∧ st.marks = (st.turn o).marks) :
    RTurn w B S b st D o V c l D.a2 D.c2 st.marks (ob V ++ S) wx := by
  have h' := h.below hb
  have hS : ∀ g ∈ S, g ∈ ob V ++ S := fun g hg => by simp [hg]
  refine ⟨hm, hb, hS, fun g hg => ?_, fun g hg => ?_, Seat.of_own hV (fun g hg => by simp [hg]) (fun g hg => (h.own g (h.sub g hg)).2), ⟨hV.cap_le, by have := hV.cap_max; unfold maxLen at this; omega⟩, h'.marks.more hS (fun g hg => .inl hg), h'.marksc⟩
  · rcases List.mem_append.1 hg with h1 | h1
    · exact .inr (hV.lt g h1).1
    · exact .inl h1
  · rcases List.mem_append.1 hg with h1 | h1
    · exact ⟨by have := (hV.lt g h1).1; omega, (hV.lt g h1).2⟩
    · exact h'.own g h1
theorem marks_ (h : RDocIs w B S b st D) (hb : Below w.heap.size w wx) {V : Option Addr} {c : Nat} {l : List LMark} (hV : Own wx w.heap.size 136 3 V l.length c (mcells l)) (hB : B ≤ w.heap.size) (hm : st.turnE o = 0 → st.book = (st.turn o).book ∧ l = (st.turn o).marks) :
    RTurn w B S b st D o D.a1 D.c1 st.book V c l (ob V ++ S) wx := by
  have h' := h.below hb
  have hS : ∀ g ∈ S, g ∈ ob V ++ S := fun g hg => by simp [hg]
  refine ⟨hm, hb, hS, fun g hg => ?_, fun g hg => ?_, h'.book.more hS (fun g hg => .inl hg), h'.bookc, Seat.of_own hV (fun g hg => by simp [hg]) (fun g hg => (h.own g (h.sub g hg)).2), ⟨hV.cap_le, by have := hV.cap_max; unfold maxLen at this; omega⟩⟩
  · rcases List.mem_append.1 hg with h1 | h1
    · exact .inr (hV.lt g h1).1
    · exact .inl h1
  · rcases List.mem_append.1 hg with h1 | h1
    · exact ⟨by have := (hV.lt g h1).1; omega, (hV.lt g h1).2⟩
    · exact h'.own g h1
end RTurn
end Go.Proofs.YthfbjfocmnikaaaGreatDoor

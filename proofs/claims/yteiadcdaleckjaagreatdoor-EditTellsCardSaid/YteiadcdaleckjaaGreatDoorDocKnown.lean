/- 3 texts in one: each says ahead of itself what is proved, and its conditions. -/
import Derived.Test.YteiadcdaleckjaaGreatDoorBookAt
import Derived.Test.YteiadcdaleckjaaGreatDoorDocGo
import Derived.Test.YteiadcdaleckjaaGreatDoorDocRead
import Derived.Test.YteiadcdaleckjaaGreatDoorDocRow
import Derived.Test.YteiadcdaleckjaaGreatDoorMarkSeen
import Derived.Test.YteiadcdaleckjaaGreatDoorPlace4
/- Edits of a document: which ops they are, and ops done one behind the other. Plain. Conditions: none. -/
namespace Go.Proofs.YteiadcdaleckjaaGreatDoor
open Go.RowKit
set_option linter.unusedVariables false
/-- A maker of an author's next ops. -/
structure LMk where
  who : Int
  n : Int
  ops : List LOp
namespace LMk
def put (m : LMk) (o : LOp) : LOp := ⟨⟨m.who, m.n + 1⟩, o.what, o.place, o.letter, o.seen⟩
def add (m : LMk) (o : LOp) : LMk := ⟨m.who, m.n + 1, m.ops ++ [m.put o]⟩
def wr (m : LMk) (p : ByteArray) (c : Int) : LMk := m.add ⟨⟨0, 0⟩, 1, p, c, []⟩
def st (m : LMk) (p : ByteArray) : LMk := m.add ⟨⟨0, 0⟩, 2, p, 0, []⟩
def next (m : LMk) (left right : ByteArray) : ByteArray := strOf (betweenRes left right m.who)
/-- Letters one behind the other: the maker then, and what is wrong. -/
def typed (right : ByteArray) : List UInt8 → ByteArray → LMk → LMk × Int
  | [], _, m => (m, 0)
  | c :: t, left, m => if betweenErr left right m.who ≠ 0 then (m, betweenErr left right m.who) else typed right t (m.next left right) (m.wr (m.next left right) c.toNat)
/-- Letters from one offset to another one are struck. -/
def strikes (a b : Int) : List LLeaf → Int → LMk → LMk
  | [], _, m => m
  | x :: l, at_, m => if seenB x = true then strikes a b l (at_ + 1) (if a ≤ at_ ∧ at_ < b then m.st x.place else m) else strikes a b l at_ m
end LMk
def idxOf (l : List LLeaf) (off : Int) : Nat := if 0 < off then (nthFrom 0 l (off - 1)).toNat + 1 else 0
def leftOf (l : List LLeaf) (off : Int) : ByteArray := if 0 < off then (l.getD ((nthFrom 0 l (off - 1)).toNat) default).place else ⟨#[]⟩
def rightOf (l : List LLeaf) (i : Nat) : ByteArray := if i < l.length then (l.getD i default).place else ⟨#[]⟩
def badC (c : UInt8) : Bool := !letterB (c.toNat : Int)
def insErr (l : List LLeaf) (off : Int) (text : ByteArray) : Int := if 200 < text.size then 4 else if text.toList.any badC = true then 1 else if off < 0 ∨ ((textOf l).size : Int) < off then 1 else 0
namespace LMk
def ins (m : LMk) (l : List LLeaf) (off : Int) (text : ByteArray) : LMk × Int := if insErr l off text ≠ 0 then (m, insErr l off text) else typed (rightOf l (idxOf l off)) text.toList (leftOf l off) m
def del (m : LMk) (l : List LLeaf) (a b : Int) : LMk × Int := if a < 0 ∨ b < a ∨ ((textOf l).size : Int) < b then (m, 1) else (strikes a b l 0 m, 0)
end LMk
namespace LDoc
def maker (d : LDoc) (who : Int) : LMk := ⟨who, nOf d.known ⟨who, 0⟩, []⟩
def whoE (who : Int) : Int := if who < 1 ∨ 8 < who then 1 else 0
def insE (d : LDoc) (who off : Int) (text : ByteArray) : Int := if whoE who ≠ 0 then 1 else ((d.maker who).ins d.book off text).2
def insR (d : LDoc) (who off : Int) (text : ByteArray) : List LOp := if d.insE who off text = 0 then ((d.maker who).ins d.book off text).1.ops else []
def delE (d : LDoc) (who a b : Int) : Int := if whoE who ≠ 0 then 1 else ((d.maker who).del d.book a b).2
def delR (d : LDoc) (who a b : Int) : List LOp := if d.delE who a b = 0 then ((d.maker who).del d.book a b).1.ops else []
/-- The place of the letter at an offset. -/
def spot (d : LDoc) (off : Int) : ByteArray := (d.book.getD ((nthFrom 0 d.book off).toNat) default).place
def splE (d : LDoc) (who off : Int) : Int := if whoE who ≠ 0 then 1 else atErr d.book off
def splR (d : LDoc) (who off : Int) : List LOp := if d.splE who off = 0 then ((d.maker who).add ⟨⟨0, 0⟩, 3, d.spot off, 0, []⟩).ops else []
def fusE (d : LDoc) (who off : Int) : Int := if whoE who ≠ 0 then 1 else if atErr d.book off ≠ 0 then atErr d.book off else if seenAt d.marks (d.spot off) = [] then 5 else 0
def fusR (d : LDoc) (who off : Int) : List LOp := if d.fusE who off = 0 then ((d.maker who).add ⟨⟨0, 0⟩, 4, d.spot off, 0, seenAt d.marks (d.spot off)⟩).ops else []
/-- Ops one behind the other, till one is refused. -/
def doE (d : LDoc) : List LOp → Int
  | [] => 0
  | o :: t => if d.applyE o ≠ 0 then d.applyE o else (d.apply o).doE t
def doR (d : LDoc) : List LOp → LDoc
  | [] => d
  | o :: t => if d.applyE o ≠ 0 then d else (d.apply o).doR t
theorem doR_ok : ∀ (l : List LOp) {d : LDoc}, d.Ok → (d.doR l).Ok
  | [], _, h => h
  | o :: t, d, h => by
    unfold doR
    split
    · exact h
    · exact doR_ok t (apply_ok h o)
end LDoc
end Go.Proofs.YteiadcdaleckjaaGreatDoor
/- edit.Do, walked. Conditions: the document is right; the ops can be read, and lie apart from it. -/
namespace Go.Proofs.YteiadcdaleckjaaGreatDoor
open Go.RowKit
set_option linter.unusedVariables false
/-- An op's dots can be read, and lie apart from the blocks S. -/
def OpFar (w : World) (S : List Nat) (y : OpAt) : Prop := Reads w w.heap.size 2 y.at_ y.op.seen.length (dcells y.op.seen) ∧ y.op.place.size ≤ 9223372036854775807 ∧ (0 < y.op.seen.length → ∀ g ∈ ob y.at_, g ∉ S)
structure DoMid (w : World) (B : Nat) (S : List Nat) (b : Nat) (A : Option Addr) (ys : List OpAt) (st : LDoc) (k : Nat) (wr : World) (S' : List Nat) (D' : DLay) (sk : LDoc) : Prop where
  doc : DocIs wr B S' b sk D'
  only : Only S w wr
  sub : ∀ g ∈ S', g ∈ S ∨ w.heap.size ≤ g
  ok : sk.Ok
  restE : st.doE (ys.map OpAt.op) = sk.doE ((ys.drop k).map OpAt.op)
  restR : st.doR (ys.map OpAt.op) = sk.doR ((ys.drop k).map OpAt.op)
def DoLoop (w : World) (B : Nat) (S : List Nat) (b : Nat) (A : Option Addr) (ys : List OpAt) (st : LDoc) (i : Value) (wr : World) : Prop := ∃ k : Nat, ∃ S' D' sk, k ≤ ys.length ∧ i = .int .i64 k ∧ Hid (DoMid w B S b A ys st k wr S' D' sk)
theorem DocIs.lt {w : World} {B : Nat} {S : List Nat} {b : Nat} {st : LDoc} {D : DLay} (h : DocIs w B S b st D) : ∀ g ∈ S, B ≤ g ∧ g < w.heap.size := h.own
namespace DoMid
variable {w wr w' : World} {B b : Nat} {S S' : List Nat} {A : Option Addr} {ys : List OpAt} {st sk : LDoc} {k : Nat} {D' : DLay}
/-- The world in which the op's box has been laid. -/
theorem boxed (h : DoMid w B S b A ys st k wr S' D' sk) (o : Obj) : DocIs (wr.alloc o) B S' b sk D' := h.doc.below ((Below.refl _ _).alloc (Nat.le_refl _) o)
theorem next (h : DoMid w B S b A ys st k wr S' D' sk) (hk : k < ys.length) (o : Obj) (he : sk.applyE ys[k].op = 0) (ht : DocTo (wr.alloc o) B S' b (sk.apply ys[k].op) w') : ∃ S2 D2, DoMid w B S b A ys st (k + 1) w' S2 D2 (sk.apply ys[k].op) := by
  obtain ⟨S2, D2, h1, h2, h3⟩ := ht
  have hd := List.drop_eq_getElem_cons hk
  have hsz : wr.heap.size ≤ (wr.alloc o).heap.size := by simp
  have hs0 := h.only.size
  refine ⟨S2, D2, h1, (h.only.alloc o).trans_new h2 (fun i hi => h.sub i hi), fun g hg => ?_, LDoc.apply_ok h.ok _, ?_, ?_⟩
  · rcases h3 g hg with h4 | h4
    · exact h.sub g h4
    · exact .inr (by omega)
  · rw [h.restE, hd, List.map_cons, LDoc.doE, if_neg (by omega)]
  · rw [h.restR, hd, List.map_cons, LDoc.doR, if_neg (by omega)]
theorem stop (h : DoMid w B S b A ys st k wr S' D' sk) (hk : k < ys.length) (o : Obj) (he : sk.applyE ys[k].op ≠ 0) (ht : DocTo (wr.alloc o) B S' b sk w') : st.doE (ys.map OpAt.op) = sk.applyE ys[k].op ∧ DocTo w B S b (st.doR (ys.map OpAt.op)) w' := by
  have hd := List.drop_eq_getElem_cons hk
  have hsz : wr.heap.size ≤ (wr.alloc o).heap.size := by simp
  have hs0 := h.only.size
  refine ⟨by rw [h.restE, hd, List.map_cons, LDoc.doE, if_pos he], ?_⟩
  rw [h.restR, hd, List.map_cons, LDoc.doR, if_pos he]
  exact DocTo.back (h.only.alloc o) h.sub ht
theorem fin (h : DoMid w B S b A ys st k wr S' D' sk) (hk : ys.length ≤ k) : st.doE (ys.map OpAt.op) = 0 ∧ DocTo w B S b (st.doR (ys.map OpAt.op)) wr := by
  have hd : ys.drop k = [] := List.drop_eq_nil_of_le hk
  refine ⟨by rw [h.restE, hd]; rfl, ?_⟩
  rw [h.restR, hd]
  exact ⟨S', D', h.doc, h.only, h.sub⟩
end DoMid
def DoPost (w : World) (B : Nat) (S : List Nat) (b : Nat) (k : Int) (st : LDoc) (e : Ending) (w' : World) : Prop := e = .returned (errV k) ∧ DocTo w B S b st w'
set_option maxRecDepth 100000 in
set_option maxHeartbeats 8000000 in
theorem do_any (w : World) (B : Nat) (S : List Nat) (b : Nat) (st : LDoc) (D : DLay) (h : DocIs w B S b st D) (ok : st.Ok) (A : Option Addr) (c : Nat) (ys : List OpAt) (hr : Reads w w.heap.size 6 A ys.length (ocells ys)) (ha : 0 < ys.length → ∀ g ∈ ob A, g ∉ S)
    (hf : ∀ y ∈ ys, OpFar w S y) (hl : ys.length ≤ 9223372036854775807) :
    Calls Tryz.prog 25 #[.pointer (some ⟨b, 0, none⟩), .slice A ys.length c] w (DoPost w B S b (st.doE (ys.map OpAt.op)) (st.doR (ys.map OpAt.op))) := by
  have HR := Lib.hid hr
  have HA := Lib.hid ha
  have HF := Lib.hid hf
  have HM0 : Hid (DoMid w B S b A ys st 0 w S D st) := ⟨h, Only.refl _ _, fun g hg => .inl hg, ok, rfl, rfl⟩
  clear hr ha hf h ok
  go_enter Tryz.func25, Tryz.ntmps25
  go_wp2_with fail
  go_loopw [11] (fun i wr => DoLoop w B S b A ys st i wr) (fun i _ => ys.length - (intOf i).toNat)
  case atStart => exact ⟨0, _, _, _, Nat.zero_le _, rfl, HM0.out⟩
  case round =>
    obtain ⟨k, S', D', sk, hk, rfl, HM⟩ := hrel
    have k0 : (0 : Int) ≤ (k : Int) := by omega
    by_cases hlt : k < ys.length
    · have k1 : (k : Int) < (ys.length : Int) := by omega
      have hro := Reads.only HR.out HM.out.only HA.out
      obtain ⟨ad, rfl, hab, d0, d1, d2, d3, d4, d5⟩ := hro.op hlt
      obtain ⟨f1, f2, f3⟩ := HF.out _ (List.getElem_mem hlt)
      have f1' := Reads.only f1 HM.out.only f3
      have hfar : 0 < ys[k].op.seen.length → ∀ g ∈ ob ys[k].at_, g ∉ S' := fun hn g hg hm => by
        rcases HM.out.sub g hm with h4 | h4
        · exact f3 hn g hg h4
        · obtain ⟨ad', e, hb, _⟩ := f1.2 hn
          rw [e] at hg; simp [ob] at hg; omega
      have HAP : Hid (∀ o : Obj, Calls Tryz.prog 9 #[.pointer (some ⟨b, 0, none⟩), ys[k].op.val ys[k].at_ ys[k].cap] (wr.alloc o) (ApplyPost (wr.alloc o) B S' b (sk.applyB ys[k].op) (sk.applyE ys[k].op) (sk.apply ys[k].op))) := fun o =>
        apply_doc (wr.alloc o) B S' b sk D' (HM.out.boxed o) HM.out.ok ys[k].op ys[k].at_ ys[k].cap f2 ((f1'.alloc (Nat.le_refl _) o).more (by simp)) hfar
      have HNX : Hid (∀ (he : sk.applyE ys[k].op = 0) (o : Obj) (w' : World), DocTo (wr.alloc o) B S' b (sk.apply ys[k].op) w' → ∃ S2 D2, DoMid w B S b (some ad) ys st (k + 1) w' S2 D2 (sk.apply ys[k].op)) := fun he o w' ht => HM.out.next hlt o he ht
      have HST : Hid (∀ (he : sk.applyE ys[k].op ≠ 0) (o : Obj) (w' : World), DocTo (wr.alloc o) B S' b sk w' → st.doE (ys.map OpAt.op) = sk.applyE ys[k].op ∧ DocTo w B S b (st.doR (ys.map OpAt.op)) w') := fun he o w' ht => HM.out.stop hlt o he ht
      have HBAD := Lib.hid (fun he : sk.applyE ys[k].op ≠ 0 => LDoc.applyE_bad (d := sk) (o := ys[k].op) rfl he)
      clear f1 f1' f2 f3 hfar hro hab
      generalize ys[k] = y at *
      have HE0 : errV 0 = .nilIface := rfl
      by_cases he : sk.applyE y.op = 0
      · have HNY := Lib.hid (HNX.out he)
        rw [he] at HAP
        clear HST HBAD he HNX
        generalize sk.apply y.op = sk2 at *
        generalize sk.applyB y.op = bb at *
        obtain ⟨⟨⟨who, n⟩, what, p, letter, seen⟩, ya, yc⟩ := y
        unfold LOp.val at HAP
        simp only at d0 d1 d2 d3 d4 d5 HAP
        go_wp2_with fail
        refine (HAP.out _).mono ?_
        rintro e w2 ⟨rfl, ht⟩
        have HN2 := Lib.hid (HNY.out _ _ ht)
        rw [HE0]
        clear ht HNY HAP
        go_wp2_with fail
        go_roundw
        case rel =>
          obtain ⟨S2, D2, hfin⟩ := HN2.out
          exact ⟨k + 1, S2, D2, sk2, by omega, by go_num, hfin⟩
        case measure => simp [intOf]; omega
      · obtain ⟨_, hb, hs⟩ := HBAD.out he
        have HSU := Lib.hid (HST.out he)
        have HV := Lib.hid (errV_ne he)
        rw [hb, hs] at HAP
        clear HNX HBAD he hb hs HST
        generalize sk.applyE y.op = ke at *
        obtain ⟨⟨⟨who, n⟩, what, p, letter, seen⟩, ya, yc⟩ := y
        unfold LOp.val at HAP
        simp only at d0 d1 d2 d3 d4 d5 HAP
        go_wp2_with fail
        refine (HAP.out _).mono ?_
        rintro e w2 ⟨rfl, ht⟩
        have HN2 := Lib.hid (HSU.out _ _ ht)
        rw [HV.out]
        clear ht HSU HAP
        go_wp2_with fail
        go_ret
        obtain ⟨n1, n2⟩ := HN2.out
        exact ⟨by rw [n1, HV.out]; rfl, n2⟩
    · have k1 : ¬ (k : Int) < (ys.length : Int) := by omega
      obtain ⟨f1, f2⟩ := HM.out.fin (by omega)
      have F1 := Lib.hid f1
      have F2 := Lib.hid f2
      clear f1 f2
      go_wp2_with fail
      go_ret
      exact ⟨by rw [F1.out]; rfl, F2.out⟩
end Go.Proofs.YteiadcdaleckjaaGreatDoor
/- (*doc.Doc).Known, walked. Conditions: the document is right. -/
namespace Go.Proofs.YteiadcdaleckjaaGreatDoor
open Go.RowKit
set_option linter.unusedVariables false
set_option maxRecDepth 100000 in
theorem known_doc (w : World) (B : Nat) (S : List Nat) (b : Nat) (st : LDoc) (D : DLay) (h : DocIs w B S b st D) (ok : st.Ok) : Calls Tryz.prog 89 #[.pointer (some ⟨b, 0, none⟩)] w (RowPost w 3 1 st.known.length (ints st.known)) := by
  have HC := Lib.hid (cloneI w D.a3 st.known.length D.c3 (ints st.known) h.known.reads (oneCells_ints st.known) (Fits.of_small (by have := vec_ok ok.known; omega) (by decide)))
  have c0 : w.cell? ⟨b, 2, none⟩ = some (.slice D.a3 st.known.length D.c3) := by rw [h.blk.cell]; rfl
  clear h ok
  go_enter Tryz.func89, Tryz.ntmps89
  go_wp2_with fail
  refine HC.out.mono ?_
  rintro e w1 ⟨V, c, rfl, hO, hb⟩
  have HO := Lib.hid hO
  have HB := Lib.hid hb
  clear hO hb
  go_wp2_with fail
  go_ret
  exact ⟨V, c, rfl, HO.out, HB.out⟩
end Go.Proofs.YteiadcdaleckjaaGreatDoor

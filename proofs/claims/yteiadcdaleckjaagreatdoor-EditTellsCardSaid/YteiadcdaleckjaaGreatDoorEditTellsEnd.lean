/- 12 texts in one: each says ahead of itself what is proved, and its conditions. -/
import Derived.Below
import Derived.Carry
import Derived.ChangeSame
import Derived.ChangeVars
import Derived.Deep.CutBlock
import Derived.Deep.RegionHeld3
import Derived.JoinedOf
import Derived.LaidHandle
import Derived.LaidLaws
import Derived.ProofKit
import Derived.RowKit
import Derived.RowKitTokens
import Derived.SevenTiedAt
import Derived.SizedLaws
import Derived.Test.YteiadcdaleckjaaGreatDoorCards
import Derived.Test.YteiadcdaleckjaaGreatDoorRows
import Derived.Test.YteiadcdaleckjaaGreatDoorTie
import Derived.WalkKit
import Derived.Test.YteiadcdaleckjaaGreatDoorBookAt
import Derived.Test.YteiadcdaleckjaaGreatDoorEditInsert
import Derived.Test.YteiadcdaleckjaaGreatDoorEditTwo
import Derived.Test.YteiadcdaleckjaaGreatDoorHi
import Derived.Test.YteiadcdaleckjaaGreatDoorMarkSeen
import Derived.Test.YteiadcdaleckjaaGreatDoorRDoc
import Derived.Test.YteiadcdaleckjaaGreatDoorRefIns
import Derived.Test.YteiadcdaleckjaaGreatDoorShelfCmp
import Derived.Test.YteiadcdaleckjaaGreatDoorTold
/- book.At, walked. Conditions: places that an int may count. -/
namespace Go.Proofs.YteiadcdaleckjaaGreatDoor
open Go.RowKit
set_option linter.unusedVariables false
set_option maxRecDepth 100000 in
set_option maxHeartbeats 2000000 in
theorem at_any (w : World) (A : Option Addr) (c : Nat) (l : List LLeaf) (off : Int) (h : Reads w w.heap.size 3 A l.length (lcells l)) (hs : Sized l) (hn : l.length ≤ 9223372036854775807) (h1 : off ≤ 9223372036854775807) :
    Calls Tryz.prog 99 #[.slice A l.length c, .int .i64 off] w (AtPost w l off) := by
  have HC := Lib.hid (bookCheck_any w A c l h hs hn)
  have HR := Lib.hid h
  clear h hs hn
  by_cases he : bookErr l = 0
  · have ok := book_ok he
    have HE := Lib.hid he
    have HN := Lib.hid (fun w1 (hb : Below w.heap.size w w1) (h0 : 0 ≤ off) => nth_any w1 A c l off ((HR.out.below hb).more hb.size) (by have := ok.few; omega) h0 h1)
    clear he ok
    by_cases h0 : off < 0
    · have HF : Hid (atErr l off = 1) := by show _ = _; unfold atErr; rw [if_neg (fun h => h HE.out), if_pos (.inl h0)]
      go_enter Tryz.func99, Tryz.ntmps99
      go_wp2_with fail
      refine HC.out.mono ?_
      rintro e w1 ⟨rfl, hb1⟩
      rw [HE.out, show errV 0 = .nilIface from rfl]
      go_wp2_with fail
      go_ret2
      exact ⟨by rw [HF.out]; rfl, hb1⟩
    · go_enter Tryz.func99, Tryz.ntmps99
      go_wp2_with fail
      refine HC.out.mono ?_
      rintro e w1 ⟨rfl, hb1⟩
      rw [HE.out, show errV 0 = .nilIface from rfl]
      have HB1 := Lib.hid hb1
      clear hb1
      go_wp2_with fail
      refine (HN.out _ HB1.out (by omega)).mono ?_
      rintro e w2 ⟨rfl, hb2⟩
      have HB2 := Lib.hid (HB1.out.trans (hb2.mono HB1.out.size))
      clear hb2
      by_cases hneg : nthFrom 0 l off < 0
      · have HF : Hid (atErr l off = 1) := by show _ = _; unfold atErr; rw [if_neg (fun h => h HE.out), if_pos (.inr hneg)]
        go_wp2_with fail
        go_ret2
        exact ⟨by rw [HF.out]; rfl, HB2.out⟩
      · have HF : Hid (atErr l off = 0) := by show _ = _; unfold atErr; rw [if_neg (fun h => h HE.out), if_neg (by omega)]
        go_wp2_with fail
        go_ret2
        exact ⟨by rw [HF.out]; rfl, HB2.out⟩
  · have HV := Lib.hid (errV_ne he)
    have HF : Hid (atErr l off = bookErr l ∧ atErr l off ≠ 0) := by
      have : atErr l off = bookErr l := if_pos he
      exact ⟨this, by rw [this]; exact he⟩
    clear he
    go_enter Tryz.func99, Tryz.ntmps99
    go_wp2_with fail
    refine HC.out.mono ?_
    rintro e w1 ⟨rfl, hb1⟩
    rw [HV.out]
    go_wp2_with fail
    go_ret2
    exact ⟨by rw [if_neg HF.out.2, HF.out.1, HV.out]; rfl, hb1⟩
end Go.Proofs.YteiadcdaleckjaaGreatDoor
/- edit.at, Split, Fuse, Delete, walked. Conditions: the document is right; the numbers are of 64 bits. -/
namespace Go.Proofs.YteiadcdaleckjaaGreatDoor
open Go.RowKit
set_option linter.unusedVariables false
theorem nth_lt : ∀ (l : List LLeaf) (k : Nat) (off : Int), 0 ≤ nthFrom k l off → ∃ n, ∃ hn : n < l.length, nthFrom k l off = ((k + n : Nat) : Int)
  | [], k, off => fun h => by simp [nthFrom] at h
  | x :: l, k, off => fun h => by
    have step : ∀ o : Int, 0 ≤ nthFrom (k + 1) l o → ∃ n, ∃ hn : n < (x :: l).length, nthFrom (k + 1) l o = ((k + n : Nat) : Int) := fun o ho => by
      obtain ⟨n, hn, e⟩ := nth_lt l _ _ ho
      exact ⟨n + 1, by simp; omega, by rw [e]; omega⟩
    unfold nthFrom at h ⊢
    by_cases h1 : seenB x = true
    · rw [if_pos h1] at h ⊢
      by_cases h2 : off = 0
      · rw [if_pos h2]; exact ⟨0, by simp, by simp⟩
      · rw [if_neg h2] at h ⊢; exact step _ h
    · rw [if_neg h1] at h ⊢; exact step _ h
section
variable (w : World) (B : Nat) (S : List Nat) (b : Nat) (st : LDoc) (D : DLay) (h : DocIs w B S b st D) (ok : st.Ok)
include h ok
set_option maxRecDepth 100000 in
set_option maxHeartbeats 4000000 in
theorem at_doc (off : Int) (ho : off ≤ 9223372036854775807) :
    Calls Tryz.prog 61 #[.pointer (some ⟨b, 0, none⟩), .int .i64 off] w (fun e w' => e = .returned (.tuple #[.string (if atErr st.book off = 0 then st.spot off else ⟨#[]⟩), errV (atErr st.book off)]) ∧ Below w.heap.size w w') := by
  have HC := Lib.hid (book_doc w _ _ _ _ _ h ok)
  have OK := Lib.hid ok
  have hfew := ok.book.few
  have HE0 : errV 0 = .nilIface := rfl
  have HSP : Hid (st.spot off = (st.book.getD ((nthFrom 0 st.book off).toNat) default).place) := rfl
  have HAT : Hid (atErr st.book off = 0 → 0 ≤ nthFrom 0 st.book off) := fun h => by
    unfold atErr at h
    split at h
    · rename_i h1; exact absurd h h1
    · split at h
      · omega
      · omega
  clear h ok
  by_cases he : atErr st.book off = 0
  · rw [he, if_pos rfl, HE0]
    go_enter Tryz.func61, Tryz.ntmps61
    go_wp2_with fail
    refine HC.out.mono ?_
    rintro e w1 ⟨V, c, rfl, hO, hb⟩
    have HA := Lib.hid (at_any w1 V c st.book off hO.reads (sized_ok OK.out.book) (by omega) ho)
    have HR := Lib.hid hO.reads
    have HB1 := Lib.hid hb
    unfold AtPost at HA
    clear hO hb HC
    obtain ⟨n, hn, en⟩ := nth_lt _ _ _ (HAT.out he)
    rw [Nat.zero_add] at en
    obtain ⟨ad, rfl, _⟩ := HR.out.leaf hn
    have HCL : Hid (∀ W, Below w1.heap.size w1 W → W.cell? (ad.add (n * 3)) = some (.string st.book[n].place)) := fun W hb => by
      obtain ⟨ad', e, _, c0, _⟩ := (HR.out.below hb).leaf hn
      injection e with e
      subst e
      exact c0
    have HS : Hid (st.spot off = st.book[n].place) := by show _ = _; rw [HSP.out, en]; simp [List.getD, hn]
    rw [he, if_pos rfl, HE0, en] at HA
    have n0 : (0 : Int) ≤ (n : Int) := by omega
    have n1 : (n : Int) < (st.book.length : Int) := by omega
    clear he en HSP HAT HR
    generalize st.book[n].place = p at *
    go_wp2_with fail
    refine HA.out.mono ?_
    rintro e w2 ⟨rfl, hb⟩
    have c0 := HCL.out _ hb
    have HB2 := Lib.hid (HB1.out.trans (hb.mono HB1.out.size))
    clear hb
    go_wp2_with fail
    go_ret2
    exact ⟨by rw [HS.out]; rfl, HB2.out⟩
  · rw [if_neg he]
    have HE := Lib.hid he
    have HV := Lib.hid (errV_ne he)
    clear he HSP HAT
    go_enter Tryz.func61, Tryz.ntmps61
    go_wp2_with fail
    refine HC.out.mono ?_
    rintro e w1 ⟨V, c, rfl, hO, hb⟩
    have HA := Lib.hid (at_any w1 V c st.book off hO.reads (sized_ok OK.out.book) (by omega) ho)
    have HB1 := Lib.hid hb
    unfold AtPost at HA
    rw [if_neg HE.out] at HA
    clear hO hb HC HE
    go_wp2_with fail
    refine HA.out.mono ?_
    rintro e w2 ⟨rfl, hb⟩
    rw [HV.out]
    have HB2 := Lib.hid (HB1.out.trans (hb.mono HB1.out.size))
    clear hb
    go_wp2_with fail
    go_ret2
    exact ⟨by rw [HV.out]; rfl, HB2.out⟩
set_option maxRecDepth 100000 in
set_option maxHeartbeats 4000000 in
theorem split_any (who off : Int) (hw0 : -9223372036854775808 ≤ who) (hw1 : who ≤ 9223372036854775807) (ho : off ≤ 9223372036854775807) :
    Calls Tryz.prog 22 #[.pointer (some ⟨b, 0, none⟩), .int .i64 who, .int .i64 off] w (EditPost w (st.splE who off) (st.splR who off)) := by
  have HN := Lib.hid (newMk_any w B S b st D h ok who hw0 hw1)
  have HD := Lib.hid h
  have OK := Lib.hid ok
  have HE0 : errV 0 = .nilIface := rfl
  have HE1 := errV_ne (show (1 : Int) ≠ 0 by decide)
  clear h ok
  by_cases hw : LDoc.whoE who = 0
  · have HN : Hid (Calls Tryz.prog 52 #[.pointer (some ⟨b, 0, none⟩), .int .i64 who] w fun e w' => ∃ b, e = .returned (.tuple #[.pointer (some ⟨b, 0, none⟩), .nilIface]) ∧ MkIs w' w.heap.size b (st.maker who) none 0 [] ∧ Below w.heap.size w w') :=
      HN.out.mono fun e w' hh => by
        rcases hh with ⟨_, h1⟩ | ⟨h1, _⟩
        · exact h1
        · exact absurd hw h1
    have HSE : Hid (st.splE who off = atErr st.book off) := by show _ = _; unfold LDoc.splE; rw [if_neg (by omega)]
    have HSR : Hid (st.splR who off = if atErr st.book off = 0 then ((st.maker who).add ⟨⟨0, 0⟩, 3, st.spot off, 0, []⟩).ops else []) := by show _ = _; unfold LDoc.splR; rw [HSE.out]
    have hmn : 0 ≤ (st.maker who).n ∧ (st.maker who).n ≤ 9999 := by
      obtain ⟨k, hk, _, e, h1, h2⟩ := nOf_known OK.out.known hw
      exact ⟨by rw [e] at h1; exact h1, by rw [e] at h2; exact h2⟩
    rw [HSE.out, HSR.out]
    clear hw HSE HSR
    generalize st.maker who = m at *
    by_cases he : atErr st.book off = 0
    · rw [he, if_pos rfl]
      go_enter Tryz.func22, Tryz.ntmps22
      go_wp2_with fail
      refine HN.out.mono ?_
      rintro e w1 ⟨bm, rfl, hm, hb⟩
      have HM1 := Lib.hid hm
      have HB1 := Lib.hid hb
      have HA := Lib.hid (at_doc w1 B S b st D (HD.out.below hb) OK.out off ho)
      clear hm hb HN
      rw [he, if_pos rfl, HE0] at HA
      clear he
      generalize st.spot off = p at *
      go_wp2_with fail
      refine HA.out.mono ?_
      rintro e w2 ⟨rfl, hb⟩
      have HB2 := Lib.hid (HB1.out.trans (hb.mono HB1.out.size))
      have HM2 := Lib.hid (HM1.out.below hb)
      have hs2 : w.heap.size ≤ w2.heap.size := HB2.out.size
      have HAD : Hid (Calls _ _ _ _ _) := mkAdd_any w2 w.heap.size bm m none 0 [] HM2.out hs2 ⟨⟨0, 0⟩, 3, p, 0, []⟩ none 0 (Own.nil _ _ _ _) (by omega) (by omega) (by simp)
      unfold LOp.val at HAD
      simp only [List.length_nil] at HAD
      clear hb HM1 HA
      go_wp2_with fail
      refine HAD.out.mono ?_
      rintro e w3 ⟨rfl, ht⟩
      have HB3 := Lib.hid (HB2.out.trans (MkTo.below HM2.out ht (Nat.le_refl _) hs2))
      obtain ⟨V', c', ys', hm3, _, _⟩ := ht
      have HM3 := Lib.hid hm3
      have c2 : w3.cell? ⟨bm, 2, none⟩ = some (.slice V' ys'.length c') := by rw [hm3.blk.cell]; rfl
      clear hm3 HAD
      go_wp2_with fail
      go_ret2
      exact ⟨V', c', ys', rfl, HM3.out.same, HM3.out.ops, HB3.out⟩
    · rw [if_neg he]
      have HV := Lib.hid (errV_ne he)
      go_enter Tryz.func22, Tryz.ntmps22
      go_wp2_with fail
      refine HN.out.mono ?_
      rintro e w1 ⟨bm, rfl, hm, hb⟩
      have HM1 := Lib.hid hm
      have HB1 := Lib.hid hb
      have HA := Lib.hid (at_doc w1 B S b st D (HD.out.below hb) OK.out off ho)
      clear hm hb HN
      rw [if_neg he] at HA
      clear he
      go_wp2_with fail
      refine HA.out.mono ?_
      rintro e w2 ⟨rfl, hb⟩
      rw [HV.out]
      have HB2 := Lib.hid (HB1.out.trans (hb.mono HB1.out.size))
      clear hb
      go_wp2_with fail
      go_ret2
      have := edit_bad (k := atErr st.book off) HB2.out
      rw [HV.out] at this
      exact this
  · have HN : Hid (Calls Tryz.prog 52 #[.pointer (some ⟨b, 0, none⟩), .int .i64 who] w fun e w' => e = .returned (.tuple #[.pointer none, errV 1]) ∧ Below w.heap.size w w') :=
      HN.out.mono fun e w' hh => by
        rcases hh with ⟨h1, _⟩ | ⟨_, h1⟩
        · exact absurd h1 hw
        · exact h1
    have HSE : Hid (st.splE who off = 1) := if_pos hw
    have HSR : Hid (st.splR who off = []) := by show _ = _; unfold LDoc.splR; rw [HSE.out, if_neg (by decide)]
    rw [HSE.out, HSR.out]
    rw [HE1] at HN
    clear hw HSE HSR
    go_enter Tryz.func22, Tryz.ntmps22
    go_wp2_with fail
    refine HN.out.mono ?_
    rintro e w1 ⟨rfl, hb⟩
    have HB1 := Lib.hid hb
    clear hb
    go_wp2_with fail
    go_ret2
    have := edit_bad (k := 1) HB1.out
    rw [HE1] at this
    exact this
end
end Go.Proofs.YteiadcdaleckjaaGreatDoor
/- edit.Fuse, Delete, walked. Conditions: the document is right; the numbers are of 64 bits. -/
namespace Go.Proofs.YteiadcdaleckjaaGreatDoor
open Go.RowKit
set_option linter.unusedVariables false
theorem newMk_good {w : World} {B b : Nat} {S : List Nat} {st : LDoc} {D : DLay} (h : DocIs w B S b st D) (ok : st.Ok) {who : Int} (hw : LDoc.whoE who = 0) (hw0 : -9223372036854775808 ≤ who) (hw1 : who ≤ 9223372036854775807) :
    (0 ≤ (st.maker who).n ∧ (st.maker who).n ≤ 9999) ∧ Calls Tryz.prog 52 #[.pointer (some ⟨b, 0, none⟩), .int .i64 who] w fun e w' => ∃ b, e = .returned (.tuple #[.pointer (some ⟨b, 0, none⟩), .nilIface]) ∧ MkIs w' w.heap.size b (st.maker who) none 0 [] ∧ Below w.heap.size w w' := by
  refine ⟨?_, (newMk_any w B S b st D h ok who hw0 hw1).mono fun e w' hh => ?_⟩
  · obtain ⟨k, hk, _, e, h1, h2⟩ := nOf_known ok.known hw
    exact ⟨by rw [e] at h1; exact h1, by rw [e] at h2; exact h2⟩
  · rcases hh with ⟨_, h1⟩ | ⟨h1, _⟩
    · exact h1
    · exact absurd hw h1
theorem newMk_bad {w : World} {B b : Nat} {S : List Nat} {st : LDoc} {D : DLay} (h : DocIs w B S b st D) (ok : st.Ok) {who : Int} (hw : ¬ LDoc.whoE who = 0) (hw0 : -9223372036854775808 ≤ who) (hw1 : who ≤ 9223372036854775807) :
    Calls Tryz.prog 52 #[.pointer (some ⟨b, 0, none⟩), .int .i64 who] w fun e w' => e = .returned (.tuple #[.pointer none, errV 1]) ∧ Below w.heap.size w w' :=
  (newMk_any w B S b st D h ok who hw0 hw1).mono fun e w' hh => by
    rcases hh with ⟨h1, _⟩ | ⟨_, h1⟩
    · exact absurd h1 hw
    · exact h1
theorem MkTo.edit {w0 w w' : World} {b : Nat} {m m' : LMk} {V : Option Addr} {c : Nat} {ys : List OpAt} (hb : Below w0.heap.size w0 w) (h : MkIs w w0.heap.size b m V c ys) (ht : MkTo w w0.heap.size b V m' w') :
    ∃ V' c' ys', w'.cell? ⟨b, 2, none⟩ = some (.slice V' ys'.length c') ∧ ys'.map OpAt.op = m'.ops ∧ OwnOps w' w0.heap.size V' c' ys' ∧ Below w0.heap.size w0 w' := by
  have hB := hb.trans (MkTo.below h ht (Nat.le_refl _) hb.size)
  obtain ⟨V', c', ys', hm, _, _⟩ := ht
  exact ⟨V', c', ys', by rw [hm.blk.cell]; rfl, hm.same, hm.ops, hB⟩
section
variable (w : World) (B : Nat) (S : List Nat) (b : Nat) (st : LDoc) (D : DLay) (h : DocIs w B S b st D) (ok : st.Ok)
include h ok
set_option maxRecDepth 100000 in
set_option maxHeartbeats 4000000 in
theorem fuse_any (who off : Int) (hw0 : -9223372036854775808 ≤ who) (hw1 : who ≤ 9223372036854775807) (ho : off ≤ 9223372036854775807) :
    Calls Tryz.prog 23 #[.pointer (some ⟨b, 0, none⟩), .int .i64 who, .int .i64 off] w (EditPost w (st.fusE who off) (st.fusR who off)) := by
  have HD := Lib.hid h
  have OK := Lib.hid ok
  have HE0 : errV 0 = .nilIface := rfl
  have HE1 := errV_ne (show (1 : Int) ≠ 0 by decide)
  have HE5 := errV_ne (show (5 : Int) ≠ 0 by decide)
  clear h ok
  by_cases hw : LDoc.whoE who = 0
  · obtain ⟨hmn, hn⟩ := newMk_good HD.out OK.out hw hw0 hw1
    have HN := Lib.hid hn
    have hfewm := OK.out.marks.few
    by_cases he : atErr st.book off = 0
    · by_cases hs : seenAt st.marks (st.spot off) = []
      · have e1 : st.fusE who off = 5 := by unfold LDoc.fusE; rw [if_neg (by omega), if_neg (by omega), if_pos hs]
        have e2 : st.fusR who off = [] := by unfold LDoc.fusR; rw [e1, if_neg (by decide)]
        rw [e1, e2]
        clear hw hn e1 e2 hmn
        go_enter Tryz.func23, Tryz.ntmps23
        go_wp2_with fail
        refine HN.out.mono ?_
        rintro e w1 ⟨bm, rfl, hm, hb⟩
        have HB1 := Lib.hid hb
        have HD1 := Lib.hid (HD.out.below hb)
        have HA := Lib.hid (at_doc w1 B S b st D HD1.out OK.out off ho)
        rw [he, if_pos rfl, HE0] at HA
        clear hm hb HN
        go_wp2_with fail
        refine HA.out.mono ?_
        rintro e w2 ⟨rfl, hb⟩
        have HB2 := Lib.hid (HB1.out.trans (hb.mono HB1.out.size))
        have HM := Lib.hid (marks_doc w2 B S b st D (HD1.out.below hb) OK.out)
        clear hb HA
        go_wp2_with fail
        refine HM.out.mono ?_
        rintro e w3 ⟨V, c, rfl, hO, hb⟩
        have HB3 := Lib.hid (HB2.out.trans (hb.mono HB2.out.size))
        have HSA := Lib.hid (seenAt_any w3 V c st.marks (st.spot off) hO.reads (by omega))
        unfold DotsPost at HSA
        rw [hs] at HSA
        clear hb hO HM
        go_wp2_with fail
        refine HSA.out.mono ?_
        rintro e w4 ⟨V2, c2, rfl, hO, hb⟩
        have HB4 := Lib.hid (HB3.out.trans (hb.mono HB3.out.size))
        clear hb hO HSA
        go_wp2_with fail
        go_ret2
        have := edit_bad (k := 5) HB4.out
        rw [HE5] at this
        exact this
      · have e1 : st.fusE who off = 0 := by unfold LDoc.fusE; rw [if_neg (by omega), if_neg (by omega), if_neg hs]
        have e2 : st.fusR who off = ((st.maker who).add ⟨⟨0, 0⟩, 4, st.spot off, 0, seenAt st.marks (st.spot off)⟩).ops := by unfold LDoc.fusR; rw [if_pos e1]
        rw [e1, e2]
        have hpos : 0 < (seenAt st.marks (st.spot off)).length := List.length_pos_iff.2 hs
        have hz : (((seenAt st.marks (st.spot off)).length : Int) == 0) = false := by rw [beq_eq_false_iff_ne]; omega
        clear hw hn e1 e2 hs hpos
        go_enter Tryz.func23, Tryz.ntmps23
        go_wp2_with fail
        refine HN.out.mono ?_
        rintro e w1 ⟨bm, rfl, hm, hb⟩
        have HB1 := Lib.hid hb
        have HM1 := Lib.hid hm
        have HD1 := Lib.hid (HD.out.below hb)
        have HA := Lib.hid (at_doc w1 B S b st D HD1.out OK.out off ho)
        rw [he, if_pos rfl, HE0] at HA
        clear hm hb HN
        go_wp2_with fail
        refine HA.out.mono ?_
        rintro e w2 ⟨rfl, hb⟩
        have HB2 := Lib.hid (HB1.out.trans (hb.mono HB1.out.size))
        have HM2 := Lib.hid (HM1.out.below hb)
        have HM := Lib.hid (marks_doc w2 B S b st D (HD1.out.below hb) OK.out)
        clear hb HA HM1
        go_wp2_with fail
        refine HM.out.mono ?_
        rintro e w3 ⟨V, c, rfl, hO, hb⟩
        have HB3 := Lib.hid (HB2.out.trans (hb.mono HB2.out.size))
        have HM3 := Lib.hid (HM2.out.below hb)
        have HSA := Lib.hid (seenAt_any w3 V c st.marks (st.spot off) hO.reads (by omega))
        unfold DotsPost at HSA
        clear hb hO HM HM2
        generalize seenAt st.marks (st.spot off) = seen at *
        generalize st.spot off = p at *
        go_wp2_with fail
        refine HSA.out.mono ?_
        rintro e w4 ⟨V2, c2, rfl, hO, hb⟩
        have HB4 := Lib.hid (HB3.out.trans (hb.mono HB3.out.size))
        have HM4 := Lib.hid (HM3.out.below hb)
        have hs4 : w.heap.size ≤ w4.heap.size := HB4.out.size
        have HAD : Hid (Calls _ _ _ _ _) := mkAdd_any w4 w.heap.size bm (st.maker who) none 0 [] HM4.out hs4 ⟨⟨0, 0⟩, 4, p, 0, seen⟩ V2 c2 (hO.mono HB3.out.size) (by omega) (by omega) (by simp)
        unfold LOp.val at HAD
        clear hb hO HSA HM3
        go_wp2_with fail
        refine HAD.out.mono ?_
        rintro e w5 ⟨rfl, ht⟩
        obtain ⟨V', c', ys', q1, q2, q3, q4⟩ := MkTo.edit HB4.out HM4.out ht
        have Q2 := Lib.hid q2
        have Q3 := Lib.hid q3
        have Q4 := Lib.hid q4
        clear ht HAD q2 q3 q4
        go_wp2_with fail
        go_ret2
        exact ⟨V', c', ys', rfl, Q2.out, Q3.out, Q4.out⟩
    · have e1 : st.fusE who off = atErr st.book off := by unfold LDoc.fusE; rw [if_neg (by omega), if_pos he]
      have e2 : st.fusR who off = [] := by unfold LDoc.fusR; rw [e1, if_neg he]
      rw [e1, e2]
      have HV := Lib.hid (errV_ne he)
      clear hw hn e1 e2
      go_enter Tryz.func23, Tryz.ntmps23
      go_wp2_with fail
      refine HN.out.mono ?_
      rintro e w1 ⟨bm, rfl, hm, hb⟩
      have HB1 := Lib.hid hb
      have HA := Lib.hid (at_doc w1 B S b st D (HD.out.below hb) OK.out off ho)
      rw [if_neg he] at HA
      clear hm hb HN he
      go_wp2_with fail
      refine HA.out.mono ?_
      rintro e w2 ⟨rfl, hb⟩
      rw [HV.out]
      have HB2 := Lib.hid (HB1.out.trans (hb.mono HB1.out.size))
      clear hb
      go_wp2_with fail
      go_ret2
      have := edit_bad (k := atErr st.book off) HB2.out
      rw [HV.out] at this
      exact this
  · have HN := Lib.hid (newMk_bad HD.out OK.out hw hw0 hw1)
    have e1 : st.fusE who off = 1 := if_pos hw
    have e2 : st.fusR who off = [] := by unfold LDoc.fusR; rw [e1, if_neg (by decide)]
    rw [e1, e2]
    rw [HE1] at HN
    clear hw e1 e2
    go_enter Tryz.func23, Tryz.ntmps23
    go_wp2_with fail
    refine HN.out.mono ?_
    rintro e w1 ⟨rfl, hb⟩
    have HB1 := Lib.hid hb
    clear hb
    go_wp2_with fail
    go_ret2
    have := edit_bad (k := 1) HB1.out
    rw [HE1] at this
    exact this
end
/-- Midway: k leafs are looked at. -/
structure DelMid (w : World) (B b : Nat) (V : Option Addr) (m : LMk) (x y : Int) (l : List LLeaf) (k : Nat) (wr : World) (a : Int) (mk : LMk) (V' : Option Addr) (c' : Nat) (ys' : List OpAt) : Prop where
  mkis : MkIs wr B b mk V' c' ys'
  only : Only (b :: ob V) w wr
  new : ∀ g ∈ ob V', g ∈ ob V ∨ w.heap.size ≤ g
  rest : LMk.strikes x y l 0 m = LMk.strikes x y (l.drop k) a mk
  at_ : 0 ≤ a ∧ a ≤ k
  n : m.n ≤ mk.n ∧ mk.n ≤ m.n + k
  len : ys'.length ≤ m.ops.length + k
def DelLoop (w : World) (B b : Nat) (V : Option Addr) (m : LMk) (x y : Int) (l : List LLeaf) (a i : Value) (wr : World) : Prop :=
  ∃ k : Nat, ∃ (n : Int), ∃ mk V' c' ys', k ≤ l.length ∧ a = .int .i64 n ∧ i = .int .i64 k ∧ Hid (DelMid w B b V m x y l k wr n mk V' c' ys')
namespace DelMid
variable {w wr w' : World} {B b : Nat} {V V' : Option Addr} {m mk : LMk} {x y a : Int} {l : List LLeaf} {k c' : Nat} {ys' : List OpAt}
theorem fin (h : DelMid w B b V m x y l k wr a mk V' c' ys') (hk : l.length ≤ k) : MkTo w B b V (LMk.strikes x y l 0 m) wr := by
  rw [h.rest, List.drop_eq_nil_of_le hk, LMk.strikes]
  exact ⟨V', c', ys', h.mkis, h.only, h.new⟩
theorem skip (h : DelMid w B b V m x y l k wr a mk V' c' ys') (hk : k < l.length) (hs : seenB l[k] = false) (hb : Below wr.heap.size wr w') : DelMid w B b V m x y l (k + 1) w' a mk V' c' ys' := by
  refine ⟨h.mkis.below hb, h.only.below_step hb, h.new, ?_, by have := h.at_; omega, by have := h.n; omega, by have := h.len; omega⟩
  rw [h.rest, List.drop_eq_getElem_cons hk, LMk.strikes, if_neg (by rw [hs]; decide)]
theorem pass (h : DelMid w B b V m x y l k wr a mk V' c' ys') (hk : k < l.length) (hs : seenB l[k] = true) (hn : ¬ (x ≤ a ∧ a < y)) (hb : Below wr.heap.size wr w') : DelMid w B b V m x y l (k + 1) w' (a + 1) mk V' c' ys' := by
  refine ⟨h.mkis.below hb, h.only.below_step hb, h.new, ?_, by have := h.at_; omega, by have := h.n; omega, by have := h.len; omega⟩
  rw [h.rest, List.drop_eq_getElem_cons hk, LMk.strikes, if_pos hs, if_neg hn]
theorem next (h : DelMid w B b V m x y l k wr a mk V' c' ys') (hk : k < l.length) (hs : seenB l[k] = true) (hn : x ≤ a ∧ a < y) {w1 : World} (hb : Below wr.heap.size wr w1) (ht : MkTo w1 B b V' (mk.st l[k].place) w') :
    ∃ V2 c2 ys2, DelMid w B b V m x y l (k + 1) w' (a + 1) (mk.st l[k].place) V2 c2 ys2 := by
  obtain ⟨V2, c2, ys2, i2, o2, n2⟩ := MkTo.trans (h.mkis.below hb) (h.only.below_step hb) h.new ht
  refine ⟨V2, c2, ys2, i2, o2, n2, ?_, by have := h.at_; omega, ?_, ?_⟩
  · rw [h.rest, List.drop_eq_getElem_cons hk, LMk.strikes, if_pos hs, if_pos hn]
  · have := h.n
    show m.n ≤ mk.n + 1 ∧ mk.n + 1 ≤ _
    omega
  · have e1 := i2.len
    have e2 := h.mkis.len
    have := h.len
    rw [e1]
    simp [LMk.st, LMk.add]
    omega
end DelMid
set_option maxRecDepth 100000 in
set_option maxHeartbeats 8000000 in
theorem mkDel_any (w : World) (B b : Nat) (m : LMk) (V : Option Addr) (c : Nat) (ys : List OpAt) (h : MkIs w B b m V c ys) (hB : B ≤ w.heap.size) (A : Option Addr) (cl : Nat) (l : List LLeaf) (hr : Reads w w.heap.size 3 A l.length (lcells l)) (hb : BookOk l) (hap : ∀ g ∈ ob A, g ≠ b ∧ g ∉ ob V)
    (x y : Int) (hx0 : -9223372036854775808 ≤ x) (hx1 : x ≤ 9223372036854775807) (hy0 : -9223372036854775808 ≤ y) (hy1 : y ≤ 9223372036854775807) (hn0 : 0 ≤ m.n) (hn : m.n ≤ 900000) (hl : m.ops.length ≤ 90000) :
    Calls Tryz.prog 59 #[.pointer (some ⟨b, 0, none⟩), .slice A l.length cl, .int .i64 x, .int .i64 y] w (MkPost w B b V (m.del l x y)) := by
  have HR := Lib.hid hr
  have HM := Lib.hid h
  have HB := Lib.hid hb
  have HAP := Lib.hid hap
  have hfew := hb.few
  have HE0 : errV 0 = .nilIface := rfl
  have HE1 := errV_ne (show (1 : Int) ≠ 0 by decide)
  have HTX := Lib.hid (textOf_any w A cl l hr (fit_ok hb) (by omega))
  have HDEL : Hid (m.del l x y = if x < 0 ∨ y < x ∨ ((textOf l).size : Int) < y then (m, 1) else (LMk.strikes x y l 0 m, 0)) := rfl
  have hts : (textOf l).size ≤ 300 := by have := textL_le l; rw [show (textOf l).size = (textL l).length from strOf_size _]; omega
  clear h hr hb hap
  generalize textOf l = tx at *
  by_cases c1 : x < 0
  · have HF : Hid (m.del l x y = (m, 1)) := by show _ = _; rw [HDEL.out, if_pos (.inl c1)]
    go_enter Tryz.func59, Tryz.ntmps59
    go_wp2_with fail
    go_ret
    rw [HF.out]
    exact ⟨by rw [HE1]; rfl, HM.out.to_self⟩
  · by_cases c2 : y < x
    · have HF : Hid (m.del l x y = (m, 1)) := by show _ = _; rw [HDEL.out, if_pos (.inr (.inl c2))]
      go_enter Tryz.func59, Tryz.ntmps59
      go_wp2_with fail
      go_ret
      rw [HF.out]
      exact ⟨by rw [HE1]; rfl, HM.out.to_self⟩
    · by_cases c3 : (tx.size : Int) < y
      · have HF : Hid (m.del l x y = (m, 1)) := by show _ = _; rw [HDEL.out, if_pos (.inr (.inr c3))]
        have g3 : decide (y > (tx.size : Int)) = true := decide_eq_true c3
        go_enter Tryz.func59, Tryz.ntmps59
        go_wp2_with fail
        refine HTX.out.mono ?_
        rintro e w1 ⟨rfl, hb⟩
        have HM1 := Lib.hid (HM.out.below hb)
        have HO1 := Lib.hid (Only.of_below (S := b :: ob V) hb)
        clear hb
        go_wp2_with fail
        go_ret
        rw [HF.out]
        exact ⟨by rw [HE1]; rfl, V, c, ys, HM1.out, HO1.out, fun g hg => .inl hg⟩
      · have HF : Hid (m.del l x y = (LMk.strikes x y l 0 m, 0)) := by show _ = _; rw [HDEL.out, if_neg (by omega)]
        have g3 : ¬ (tx.size : Int) < y := c3
        have hml := HM.out.len
        go_enter Tryz.func59, Tryz.ntmps59
        go_wp2_with fail
        refine HTX.out.mono ?_
        rintro e w1 ⟨rfl, hb⟩
        have HM0 : Hid (DelMid w B b V m x y l 0 w1 0 m V c ys) := ⟨HM.out.below hb, Only.of_below hb, fun g hg => .inl hg, rfl, by omega, by omega, by omega⟩
        clear hb
        go_wp2_with fail
        go_loopw [9, 29] (fun a i wr => DelLoop w B b V m x y l a i wr) (fun _ i _ => l.length - (intOf i).toNat)
        case atStart => exact ⟨0, 0, m, V, c, ys, Nat.zero_le _, rfl, rfl, HM0.out⟩
        case round =>
          obtain ⟨k, n, mk, V', c', ys', hk, rfl, rfl, HK⟩ := hrel
          have k0 : (0 : Int) ≤ (k : Int) := by omega
          have hkat := HK.out.at_
          have hkn := HK.out.n
          have hkl := HK.out.len
          by_cases hlt : k < l.length
          · have k1 : (k : Int) < (l.length : Int) := by omega
            have hrr : Reads wr wr.heap.size 3 A l.length (lcells l) := Reads.only HR.out HK.out.only (fun _ g hg hm => by
              have := HAP.out g hg
              rcases List.mem_cons.1 hm with h | h
              · exact this.1 h
              · exact this.2 h)
            obtain ⟨ad, rfl, _, d0, d1, d2⟩ := hrr.leaf hlt
            have HSN := Lib.hid (fun W => seen_any W l[k])
            have HSK := Lib.hid (fun hs w' hb => HK.out.skip (w' := w') hlt hs hb)
            have HPS := Lib.hid (fun hs hn w' hb => HK.out.pass (w' := w') hlt hs hn hb)
            have HNX := Lib.hid (fun hs hn w1 w' hb ht => HK.out.next (w1 := w1) (w' := w') hlt hs hn hb ht)
            have HAD := Lib.hid (fun W (hW : Below wr.heap.size wr W) o hs => mkAdd_any W B b mk V' c' ys' (HK.out.mkis.below hW) (by have := HK.out.only.size; have := hW.size; omega) o none 0 hs (by omega) (by omega) (by omega))
            clear hrr
            generalize l[k] = z at *
            obtain ⟨p, ch, sk⟩ := z
            obtain ⟨WX, hWX⟩ : ∃ WX, WX = wr.alloc (.cells #[.string p, .int .i64 ch, .bool sk] 100) := ⟨_, rfl⟩
            have hbX : Below wr.heap.size wr WX := by rw [hWX]; exact (Below.refl _ _).alloc (Nat.le_refl _) _
            have hbk : Blk WX wr.heap.size 100 #[.string p, .int .i64 ch, .bool sk] := by rw [hWX]; exact Blk.new wr _ _
            have HBX := Lib.hid hbX
            have HBK := Lib.hid hbk
            have e0 : WX.cell? ⟨wr.heap.size, 0, none⟩ = some (.string p) := hbk.cell 0
            have e1 : WX.cell? ⟨wr.heap.size, 1, none⟩ = some (.int .i64 ch) := hbk.cell 1
            have e2 : WX.cell? ⟨wr.heap.size, 2, none⟩ = some (.bool sk) := hbk.cell 2
            have HS1 := Lib.hid (HSN.out WX)
            have q1 : IntKind.i64.wrap (n + 1) = n + 1 := IntWalk.i64_in _ (by omega)
            clear hbX hbk HSN
            simp only at d0 d1 d2
            cases hsn : seenB ⟨p, ch, sk⟩ with
            | false =>
              rw [hsn] at HS1
              have HSK := Lib.hid (HSK.out hsn)
              clear hsn HPS HNX HAD
              go_wp2_with fail
              rw [← hWX]
              clear hWX
              refine HS1.out.mono ?_
              rintro e w2 ⟨rfl, hb2⟩
              have HN := Lib.hid (HSK.out w2 (HBX.out.trans (hb2.mono HBX.out.size)))
              clear hb2
              go_wp2_with fail
              go_roundw
              case rel => exact ⟨k + 1, n, mk, V', c', ys', by omega, rfl, by go_num, HN.out⟩
              case measure => simp [intOf]; omega
            | true =>
              rw [hsn] at HS1
              by_cases hin : x ≤ n ∧ n < y
              · have i1 : x ≤ n := hin.1
                have i2 : n < y := hin.2
                have i3 : decide (n ≥ x) = true := decide_eq_true i1
                have HNX := Lib.hid (HNX.out hsn hin)
                clear hsn HPS HSK hin
                go_wp2_with fail
                rw [← hWX]
                clear hWX
                refine HS1.out.mono ?_
                rintro e w2 ⟨rfl, hb2⟩
                have HB2 := Lib.hid (HBX.out.trans (hb2.mono HBX.out.size))
                have f0 : w2.cell? ⟨wr.heap.size, 0, none⟩ = some (.string p) := (HBK.out.below hb2 HBK.out.lt).cell 0
                have HAW := Lib.hid (HAD.out w2 HB2.out ⟨⟨0, 0⟩, 2, p, 0, []⟩ (Own.nil _ _ _ _))
                have HNY := Lib.hid (HNX.out w2)
                clear hb2 HNX HAD e0 e1 e2
                unfold LOp.val at HAW
                go_wp2_with fail
                refine HAW.out.mono ?_
                rintro e w3 ⟨rfl, ht⟩
                have HF := Lib.hid (HNY.out w3 HB2.out ht)
                clear ht
                go_wp2_with fail
                go_roundw
                case rel =>
                  obtain ⟨V2, c2, ys2, hfin⟩ := HF.out
                  exact ⟨k + 1, n + 1, _, V2, c2, ys2, by omega, by first | rfl | rw [q1], by go_num, hfin⟩
                case measure => simp [intOf]; omega
              · have HPS := Lib.hid (HPS.out hsn hin)
                by_cases i1 : x ≤ n
                · have i2 : ¬ n < y := fun h => hin ⟨i1, h⟩
                  have i3 : decide (n ≥ x) = true := decide_eq_true i1
                  clear hsn HNX HSK hin HAD
                  go_wp2_with fail
                  rw [← hWX]
                  clear hWX
                  refine HS1.out.mono ?_
                  rintro e w2 ⟨rfl, hb2⟩
                  have HN := Lib.hid (HPS.out w2 (HBX.out.trans (hb2.mono HBX.out.size)))
                  clear hb2
                  go_wp2_with fail
                  go_roundw
                  case rel => exact ⟨k + 1, n + 1, mk, V', c', ys', by omega, by first | rfl | rw [q1], by go_num, HN.out⟩
                  case measure => simp [intOf]; omega
                · have i3 : decide (n ≥ x) = false := decide_eq_false i1
                  clear hsn HNX HSK hin HAD
                  go_wp2_with fail
                  rw [← hWX]
                  clear hWX
                  refine HS1.out.mono ?_
                  rintro e w2 ⟨rfl, hb2⟩
                  have HN := Lib.hid (HPS.out w2 (HBX.out.trans (hb2.mono HBX.out.size)))
                  clear hb2
                  go_wp2_with fail
                  go_roundw
                  case rel => exact ⟨k + 1, n + 1, mk, V', c', ys', by omega, by first | rfl | rw [q1], by go_num, HN.out⟩
                  case measure => simp [intOf]; omega
          · have k1 : ¬ (k : Int) < (l.length : Int) := by omega
            have HF2 := Lib.hid (HK.out.fin (by omega))
            go_wp2_with fail
            go_ret
            rw [HF.out]
            exact ⟨rfl, HF2.out⟩
end Go.Proofs.YteiadcdaleckjaaGreatDoor
/- (*leafref2.Maker).delete, walked. Conditions: the book is right; the maker's number is small. -/
namespace Go.Proofs.YteiadcdaleckjaaGreatDoor
open Go.RowKit
set_option linter.unusedVariables false
theorem strikes_none : ∀ (l : List LLeaf) (x y a : Int) (m : LMk), y ≤ a → LMk.strikes x y l a m = m
  | [], _, _, _, _, _ => rfl
  | z :: l, x, y, a, m, h => by
    unfold LMk.strikes
    split
    · rw [if_neg (by omega)]; exact strikes_none l x y (a + 1) m (by omega)
    · exact strikes_none l x y a m h
theorem strikes_step : ∀ (l : List LLeaf) (i : Nat) (a k x : Int) (m : LMk), x ≤ k → a ≤ k → ∀ n (hn : n < l.length), nthFrom i l (k - a) = ((i + n : Nat) : Int) → LMk.strikes x (k + 1) l a m = (LMk.strikes x k l a m).st l[n].place
  | [], _, _, _, _, _, _, _, n, hn, _ => by simp at hn
  | z :: l, i, a, k, x, m, hx, ha, n, hn, h => by
    have up : ∀ o : Int, nthFrom (i + 1) l o = ((i + n : Nat) : Int) → ∃ n', ∃ hn' : n' < l.length, n = n' + 1 ∧ nthFrom (i + 1) l o = ((i + 1 + n' : Nat) : Int) := fun o ho => by
      obtain ⟨n', hn', e⟩ := nth_lt l (i + 1) o (by omega)
      exact ⟨n', hn', by omega, e⟩
    unfold nthFrom at h
    unfold LMk.strikes
    by_cases hs : seenB z = true
    · rw [if_pos hs] at h ⊢
      rw [if_pos hs]
      by_cases hk : k - a = 0
      · rw [if_pos hk] at h
        obtain rfl : n = 0 := by omega
        obtain rfl : a = k := by omega
        rw [if_pos (by omega), if_neg (by omega), strikes_none _ _ _ _ _ (by omega), strikes_none _ _ _ _ _ (by omega)]
        rfl
      · rw [if_neg hk] at h
        obtain ⟨n', hn', rfl, e⟩ := up _ h
        rw [show (if x ≤ a ∧ a < k + 1 then m.st z.place else m) = if x ≤ a ∧ a < k then m.st z.place else m by
          by_cases hxa : x ≤ a
          · rw [if_pos ⟨hxa, by omega⟩, if_pos ⟨hxa, by omega⟩]
          · rw [if_neg (fun h => hxa h.1), if_neg (fun h => hxa h.1)]]
        rw [show k - a - 1 = k - (a + 1) by omega] at e
        exact strikes_step l (i + 1) (a + 1) k x _ hx (by omega) n' hn' e
    · rw [if_neg hs] at h ⊢
      rw [if_neg hs]
      obtain ⟨n', hn', rfl, e⟩ := up _ h
      exact strikes_step l (i + 1) a k x m hx ha n' hn' e
/-- No letter lies between. -/
theorem strikes_empty : ∀ (l : List LLeaf) (x a : Int) (m : LMk), LMk.strikes x x l a m = m
  | [], _, _, _ => rfl
  | z :: l, x, a, m => by
    unfold LMk.strikes
    split
    · rw [if_neg (by omega)]; exact strikes_empty l x (a + 1) m
    · exact strikes_empty l x a m
/-- Midway: the letters ahead of k are struck. -/
structure RDelMid (w : World) (B b : Nat) (V : Option Addr) (m : LMk) (x : Int) (l : List LLeaf) (k : Int) (wr : World) (mk : LMk) (V' : Option Addr) (c' : Nat) (ys' : List OpAt) : Prop where
  mkis : RMkIs wr B b mk V' c' ys'
  only : Only (b :: ob V) w wr
  new : ∀ g ∈ ob V', g ∈ ob V ∨ w.heap.size ≤ g
  is : LMk.strikes x k l 0 m = mk
  n : mk.n = m.n + (k - x)
  len : (ys'.length : Int) = m.ops.length + (k - x)
def RDelLoop (w : World) (B b : Nat) (V : Option Addr) (m : LMk) (x y : Int) (l : List LLeaf) (i : Value) (wr : World) : Prop :=
  ∃ k : Int, ∃ mk V' c' ys', x ≤ k ∧ k ≤ y ∧ i = .int .i64 k ∧ Hid (RDelMid w B b V m x l k wr mk V' c' ys')
namespace RDelMid
variable {w wr w' : World} {B b : Nat} {V V' : Option Addr} {m mk : LMk} {x k : Int} {l : List LLeaf} {c' : Nat} {ys' : List OpAt}
theorem next (h : RDelMid w B b V m x l k wr mk V' c' ys') (hx : x ≤ k) (h0 : 0 ≤ k) {n : Nat} (hn : n < l.length) (e : nthFrom 0 l k = (n : Int)) {w1 : World} (hb : Below wr.heap.size wr w1) (ht : RMkTo w1 B b V' (mk.st l[n].place) w') :
    ∃ V2 c2 ys2, RDelMid w B b V m x l (k + 1) w' (mk.st l[n].place) V2 c2 ys2 := by
  obtain ⟨V2, c2, ys2, i2, o2, n2⟩ := RMkTo.trans (h.mkis.below hb) (h.only.below_step hb) h.new ht
  refine ⟨V2, c2, ys2, i2, o2, n2, ?_, ?_, ?_⟩
  · rw [strikes_step l 0 0 k x m hx h0 n hn (by rw [show k - 0 = k by omega, e]; simp), h.is]
  · have := h.n
    show mk.n + 1 = _
    omega
  · have e1 := i2.len
    have e2 := h.mkis.len
    have := h.len
    rw [e1]
    simp [LMk.st, LMk.add]
    omega
end RDelMid
set_option maxRecDepth 100000 in
set_option maxHeartbeats 8000000 in
theorem rmkDel_any (w : World) (B b : Nat) (m : LMk) (V : Option Addr) (c : Nat) (ys : List OpAt) (h : RMkIs w B b m V c ys) (hB : B ≤ w.heap.size) (A : Option Addr) (cl : Nat) (l : List LLeaf) (hr : Reads w w.heap.size 3 A l.length (lcells l)) (hb : BookOk l) (hap : 0 < l.length → ∀ g ∈ ob A, g ≠ b ∧ g ∉ ob V)
    (x y : Int) (hx0 : -9223372036854775808 ≤ x) (hx1 : x ≤ 9223372036854775807) (hy0 : -9223372036854775808 ≤ y) (hy1 : y ≤ 9223372036854775807) (hn0 : 0 ≤ m.n) (hn : m.n ≤ 900000) (hl : m.ops.length ≤ 90000) :
    Calls Tryz.prog 58 #[.pointer (some ⟨b, 0, none⟩), .slice A l.length cl, .int .i64 x, .int .i64 y] w (RMkPost w B b V (m.del l x y)) := by
  have HR := Lib.hid hr
  have HM := Lib.hid h
  have HAP := Lib.hid hap
  have hfew := hb.few
  have HTX := Lib.hid (rtext_any w A cl l hr (fit_ok hb) (by omega))
  have HDEL : Hid (m.del l x y = if x < 0 ∨ y < x ∨ ((textOf l).size : Int) < y then (m, 1) else (LMk.strikes x y l 0 m, 0)) := rfl
  have hts : (textOf l).size ≤ 300 := by have := textL_le l; rw [show (textOf l).size = (textL l).length from strOf_size _]; omega
  have HNS : Hid (∀ k : Int, 0 ≤ k → k < ((textOf l).size : Int) → ∃ n, ∃ hn : n < l.length, nthFrom 0 l k = (n : Int)) := fun k h0 h1 => by
    obtain ⟨o, rfl⟩ : ∃ o : Nat, k = (o : Int) := ⟨k.toNat, by omega⟩
    obtain ⟨n, hn, e1, _, _⟩ := nth_seen l 0 o (by rw [← show (textOf l).size = (textL l).length from strOf_size _]; omega)
    exact ⟨n, hn, by rw [e1]; omega⟩
  clear h hr hb hap
  generalize textOf l = tx at *
  by_cases c1 : x < 0
  · have HF : Hid (m.del l x y = (m, 1)) := by show _ = _; rw [HDEL.out, if_pos (.inl c1)]
    go_enter Tryz.func58, Tryz.ntmps58
    go_wp2_with fail
    go_ret
    rw [HF.out]
    exact ⟨rfl, HM.out.to_self⟩
  · by_cases c2 : y < x
    · have HF : Hid (m.del l x y = (m, 1)) := by show _ = _; rw [HDEL.out, if_pos (.inr (.inl c2))]
      go_enter Tryz.func58, Tryz.ntmps58
      go_wp2_with fail
      go_ret
      rw [HF.out]
      exact ⟨rfl, HM.out.to_self⟩
    · by_cases c3 : (tx.size : Int) < y
      · have HF : Hid (m.del l x y = (m, 1)) := by show _ = _; rw [HDEL.out, if_pos (.inr (.inr c3))]
        have g3 : decide (y > (tx.size : Int)) = true := decide_eq_true c3
        go_enter Tryz.func58, Tryz.ntmps58
        go_wp2_with fail
        refine HTX.out.mono ?_
        rintro e w1 ⟨rfl, hb⟩
        have HM1 := Lib.hid (HM.out.below hb)
        have HO1 := Lib.hid (Only.of_below (S := b :: ob V) hb)
        clear hb
        go_wp2_with fail
        go_ret
        rw [HF.out]
        exact ⟨rfl, V, c, ys, HM1.out, HO1.out, fun g hg => .inl hg⟩
      · have HF : Hid (m.del l x y = (LMk.strikes x y l 0 m, 0)) := by show _ = _; rw [HDEL.out, if_neg (by omega)]
        have g3 : ¬ (tx.size : Int) < y := c3
        have hml := HM.out.len
        go_enter Tryz.func58, Tryz.ntmps58
        go_wp2_with fail
        refine HTX.out.mono ?_
        rintro e w1 ⟨rfl, hb⟩
        have HM0 : Hid (RDelMid w B b V m x l x w1 m V c ys) := ⟨HM.out.below hb, Only.of_below hb, fun g hg => .inl hg, strikes_empty l x 0 m, by omega, by omega⟩
        clear hb
        go_wp2_with fail
        go_loopw [9] (fun i wr => RDelLoop w B b V m x y l i wr) (fun i _ => (y - intOf i).toNat)
        case atStart => exact ⟨x, m, V, c, ys, by omega, by omega, rfl, HM0.out⟩
        case round =>
          obtain ⟨k, mk, V', c', ys', hk0, hk1, rfl, HK⟩ := hrel
          have hkn := HK.out.n
          have hkl := HK.out.len
          by_cases hlt : k < y
          · have hrr : Reads wr wr.heap.size 3 A l.length (lcells l) := Reads.only HR.out HK.out.only (fun hn g hg hm => by
              have := HAP.out hn g hg
              rcases List.mem_cons.1 hm with h | h
              · exact this.1 h
              · exact this.2 h)
            obtain ⟨n, hn, en⟩ := HNS.out k (by omega) (by omega)
            have HN := Lib.hid (rnth_any wr A cl l k hrr (by omega) (by omega))
            have HNX := Lib.hid (fun w1 w' hb ht => HK.out.next (w1 := w1) (w' := w') hk0 (by omega) hn en hb ht)
            have HAD := Lib.hid (fun W (hW : Below wr.heap.size wr W) o hs => rmkAdd_any W B b mk V' c' ys' (HK.out.mkis.below hW) (by have := HK.out.only.size; have := hW.size; omega) o none 0 hs (by omega) (by omega) (by omega))
            obtain ⟨ad, rfl, _⟩ := hrr.leaf hn
            have HCL : Hid (∀ W, Below wr.heap.size wr W → W.cell? (ad.add (n * 3)) = some (.string l[n].place)) := fun W hb => by
              obtain ⟨ad', e, _, c0, _⟩ := (hrr.below hb).leaf hn
              injection e with e
              subst e
              exact c0
            rw [en] at HN
            have n0 : (0 : Int) ≤ (n : Int) := by omega
            have n1 : (n : Int) < (l.length : Int) := by omega
            clear hrr en
            generalize l[n].place = p at *
            go_wp2_with fail
            refine HN.out.mono ?_
            rintro e w2 ⟨rfl, hb2⟩
            have c0 := HCL.out _ hb2
            have HAW := Lib.hid (HAD.out w2 hb2 ⟨⟨0, 0⟩, 2, p, 0, []⟩ (Own.nil _ _ _ _))
            have HNY := Lib.hid (HNX.out w2)
            have HB2 := Lib.hid hb2
            clear hb2 HNX HAD HCL
            unfold LOp.val at HAW
            go_wp2_with fail
            refine HAW.out.mono ?_
            rintro e w3 ⟨rfl, ht⟩
            have HF2 := Lib.hid (HNY.out w3 HB2.out ht)
            clear ht
            go_wp2_with fail
            go_roundw
            case rel =>
              obtain ⟨V2, c2, ys2, hfin⟩ := HF2.out
              exact ⟨k + 1, _, V2, c2, ys2, by omega, by omega, by go_num, hfin⟩
            case measure => simp [intOf]; omega
          · obtain rfl : k = y := by omega
            go_wp2_with fail
            go_ret
            rw [HF.out, HK.out.is]
            exact ⟨rfl, V', c', ys', HK.out.mkis, HK.out.only, HK.out.new⟩
end Go.Proofs.YteiadcdaleckjaaGreatDoor
/- (*leafref2.Doc).maker, told, Insert, Delete, walked. Conditions: the document is right; the numbers are of 64 bits. -/
namespace Go.Proofs.YteiadcdaleckjaaGreatDoor
open Go.RowKit
set_option linter.unusedVariables false
theorem RMkTo.edit {w0 w w' : World} {b : Nat} {m m' : LMk} {V : Option Addr} {c : Nat} {ys : List OpAt} (hb : Below w0.heap.size w0 w) (h : RMkIs w w0.heap.size b m V c ys) (ht : RMkTo w w0.heap.size b V m' w') :
    ∃ V' c' ys', w'.cell? ⟨b, 2, none⟩ = some (.slice V' ys'.length c') ∧ ys'.map OpAt.op = m'.ops ∧ OwnOps w' w0.heap.size V' c' ys' ∧ Below w0.heap.size w0 w' := by
  have hB := hb.trans (RMkTo.below h ht (Nat.le_refl _) hb.size)
  obtain ⟨V', c', ys', hm, _, _⟩ := ht
  exact ⟨V', c', ys', by rw [hm.blk.cell]; rfl, hm.same, hm.ops, hB⟩
/-- Ops, of the call's own, and the fault. -/
def REditPost (w : World) (k : Int) (l : List LOp) (e : Ending) (w' : World) : Prop :=
  ∃ V c ys, e = .returned (.tuple #[.slice V ys.length c, .int .i64 k]) ∧ ys.map OpAt.op = l ∧ OwnOps w' w.heap.size V c ys ∧ Below w.heap.size w w'
theorem redit_bad {w w' : World} {k : Int} (hb : Below w.heap.size w w') : REditPost w k [] (.returned (.tuple #[.slice none 0 0, .int .i64 k])) w' := ⟨none, 0, [], rfl, rfl, ⟨Own.nil _ _ _ _, by simp⟩, hb⟩
set_option maxRecDepth 100000 in
theorem rmaker_bad (w : World) (b : Nat) (who : Int) (hw : ¬ LDoc.whoE who = 0) :
    Calls Tryz.prog 47 #[.pointer (some ⟨b, 0, none⟩), .int .i64 who] w (fun e w' => e = .returned (.tuple #[.pointer none, .bool false]) ∧ Below w.heap.size w w') := by
  have hh : who < 1 ∨ 8 < who := by
    unfold LDoc.whoE at hw
    split at hw
    · assumption
    · exact absurd rfl hw
  clear hw
  by_cases h1 : who < 1
  · go_enter Tryz.func47, Tryz.ntmps47
    go_wp2_with fail
    go_ret2
    exact ⟨rfl, Below.refl _ _⟩
  · have h2 : 8 < who := by omega
    clear hh
    go_enter Tryz.func47, Tryz.ntmps47
    go_wp2_with fail
    go_ret2
    exact ⟨rfl, Below.refl _ _⟩
section
variable (w : World) (B : Nat) (S : List Nat) (b : Nat) (st : LDoc) (D : RLay) (h : RDocIs w B S b st D) (ok : st.Ok)
include h ok
set_option maxRecDepth 100000 in
set_option maxHeartbeats 4000000 in
theorem rmaker_good (who : Int) (hw : LDoc.whoE who = 0) :
    Calls Tryz.prog 47 #[.pointer (some ⟨b, 0, none⟩), .int .i64 who] w (fun e w' => ∃ bm, e = .returned (.tuple #[.pointer (some ⟨bm, 0, none⟩), .bool true]) ∧ RMkIs w' w.heap.size bm (st.maker who) none 0 [] ∧ Below w.heap.size w w') := by
  obtain ⟨k, hk, hwk, hnk, hn0, hn1⟩ := nOf_known ok.known hw
  have hk8 : k < 8 := by have := (vec_ok ok.known).1; omega
  have c2 : w.cell? ⟨b, 2, none⟩ = some (.slice D.a3 st.known.length D.c3) := by rw [h.blk.cell]; rfl
  obtain ⟨ad, ha, _, hc⟩ := h.known.reads.int hk
  rw [ha] at c2
  have HNK := Lib.hid hnk
  have hkl : (k : Int) < (st.known.length : Int) := by omega
  subst hwk
  have q1 : IntKind.i64.wrap ((k : Int) + 1 - 1) = (k : Int) := by rw [IntWalk.i64_in _ (by omega)]; omega
  have k0 : (0 : Int) ≤ (k : Int) := by omega
  have g1 : ¬ ((k : Int) + 1 < 1) := by omega
  have g2 : ¬ (8 < (k : Int) + 1) := by omega
  clear h ok hw hnk
  generalize st.known[k] = nk at *
  go_enter Tryz.func47, Tryz.ntmps47
  go_wp2_with fail
  go_ret2
  refine ⟨_, rfl, ⟨?_, ⟨Own.nil _ _ _ _, by simp⟩, rfl, Nat.le_refl _⟩, (Below.refl _ _).alloc (Nat.le_refl _) _⟩
  have := Blk.new w 104 #[.int .i64 ((k : Int) + 1), .int .i64 nk, .slice none 0 0]
  rw [HNK.out] at this ⊢
  exact this
end
set_option maxRecDepth 100000 in
theorem rtold_any (w : World) (B b : Nat) (m : LMk) (V : Option Addr) (c : Nat) (ys : List OpAt) (h : RMkIs w B b m V c ys) (k : Int) :
    Calls Tryz.prog 54 #[.pointer (some ⟨b, 0, none⟩), .int .i64 k] w fun e w' => e = .returned (.tuple #[if k = 0 then .slice V ys.length c else .slice none 0 0, .int .i64 k]) ∧ w' = w := by
  have c2 : w.cell? ⟨b, 2, none⟩ = some (.slice V ys.length c) := by rw [h.blk.cell]; rfl
  clear h
  by_cases hk : k = 0
  · subst hk
    rw [if_pos rfl]
    go_enter Tryz.func54, Tryz.ntmps54
    go_wp2_with fail
    go_ret2
    exact ⟨rfl, rfl⟩
  · have e1 : (k != 0) = true := by simpa using hk
    have e2 : (k == 0) = false := by simpa using hk
    rw [if_neg hk]
    go_enter Tryz.func54, Tryz.ntmps54
    go_wp2_with fail
    go_ret2
    exact ⟨rfl, rfl⟩
section
variable (w : World) (B : Nat) (S : List Nat) (b : Nat) (st : LDoc) (D : RLay) (h : RDocIs w B S b st D) (ok : st.Ok)
include h ok
set_option maxRecDepth 100000 in
set_option maxHeartbeats 4000000 in
theorem rinsert_doc (who off : Int) (text : ByteArray) (ho0 : -9223372036854775808 ≤ off) (ho : off ≤ 9223372036854775807) (ht : text.size ≤ 9223372036854775807) :
    Calls Tryz.prog 17 #[.pointer (some ⟨b, 0, none⟩), .int .i64 who, .int .i64 off, .string text] w (REditPost w (st.insE who off text) (st.insR who off text)) := by
  have HD := Lib.hid h
  have HOK := Lib.hid ok
  by_cases hw : LDoc.whoE who = 0
  · have HN := Lib.hid (rmaker_good w B S b st D h ok who hw)
    have HIE : Hid (st.insE who off text = ((st.maker who).ins st.book off text).2) := by show _ = _; unfold LDoc.insE; rw [if_neg (by omega)]
    have HIR : Hid (st.insR who off text = if ((st.maker who).ins st.book off text).2 = 0 then ((st.maker who).ins st.book off text).1.ops else []) := by show _ = _; unfold LDoc.insR; rw [HIE.out]
    have hmn : 0 ≤ (st.maker who).n ∧ (st.maker who).n ≤ 9999 := by
      obtain ⟨k, hk, _, e, h1, h2⟩ := nOf_known HOK.out.known hw
      exact ⟨by rw [e] at h1; exact h1, by rw [e] at h2; exact h2⟩
    have hmo : (st.maker who).ops.length = 0 := rfl
    have hmw : 1 ≤ (st.maker who).who ∧ (st.maker who).who ≤ 8 := by
      show 1 ≤ who ∧ who ≤ 8
      unfold LDoc.whoE at hw
      split at hw
      · exact absurd hw (by decide)
      · omega
    clear hw h ok
    generalize hr : (st.maker who).ins st.book off text = r at *
    obtain ⟨m', k⟩ := r
    simp only at HIE HIR
    have HRR := Lib.hid hr
    clear hr
    have hmn0 := hmn.1
    have hmn1 := hmn.2
    have hmw0 := hmw.1
    have hmw1 := hmw.2
    clear hmn hmw
    generalize st.maker who = m at *
    rw [HIE.out, HIR.out]
    clear HIE HIR
    generalize hres : (if k = 0 then m'.ops else []) = res
    have HRES := Lib.hid hres
    clear hres
    go_enter Tryz.func17, Tryz.ntmps17
    go_wp2_with fail
    refine HN.out.mono ?_
    rintro e w1 ⟨bm, rfl, hm, hb⟩
    have HM := Lib.hid hm
    have HB1 := Lib.hid hb
    have d0 : w1.cell? ⟨b, 0, none⟩ = some (.slice D.a1 st.book.length D.c1) := by rw [(HD.out.below hb).blk.cell]; rfl
    have HI : Hid (Calls Tryz.prog 55 #[.pointer (some ⟨bm, 0, none⟩), .slice D.a1 st.book.length D.c1, .int .i64 off, .string text] w1 fun e w' => e = .returned (.int .i64 k) ∧ RMkTo w1 w.heap.size bm none m' w') := by
      have := rmkIns_any w1 w.heap.size bm m none 0 [] hm hb.size D.a1 D.c1 st.book (HD.out.below hb).book.row HOK.out.book off ho0 ho text ht hmn0 (by omega) (by omega) hmw0 hmw1
      rw [HRR.out] at this
      exact this
    clear hm hb HN
    go_wp2_with fail
    refine HI.out.mono ?_
    rintro e w3 ⟨rfl, ht3⟩
    have HB3 := Lib.hid (HB1.out.trans (RMkTo.below HM.out ht3 (Nat.le_refl _) HB1.out.size))
    obtain ⟨V', c', ys', hm3, _, _⟩ := ht3
    have HM3 := Lib.hid hm3
    have HDN := Lib.hid (rtold_any w3 _ _ _ _ _ _ hm3 k)
    clear hm3 HI
    go_wp2_with fail
    refine HDN.out.mono ?_
    rintro e w4 ⟨rfl, rfl⟩
    have HF : Hid (∃ V2 c2 ys2, (if k = 0 then Value.slice V' ys'.length c' else .slice none 0 0) = .slice V2 ys2.length c2 ∧ ys2.map OpAt.op = (if k = 0 then m'.ops else []) ∧ OwnOps w4 w.heap.size V2 c2 ys2) := by
      by_cases hk : k = 0
      · rw [if_pos hk, if_pos hk]; exact ⟨_, _, _, rfl, HM3.out.same, HM3.out.ops⟩
      · rw [if_neg hk, if_neg hk]; exact ⟨none, 0, [], rfl, rfl, ⟨Own.nil _ _ _ _, by simp⟩⟩
    obtain ⟨V2, c2, ys2, f1, f2, f3⟩ := HF.out
    rw [f1]
    have F2 := Lib.hid f2
    have F3 := Lib.hid f3
    clear HF f1 f2 f3 HDN
    go_wp2_with fail
    go_ret2
    exact ⟨V2, c2, ys2, rfl, by rw [← HRES.out]; exact F2.out, F3.out, HB3.out⟩
  · have HN := Lib.hid (rmaker_bad w b who hw)
    have HIE : Hid (st.insE who off text = 1) := if_pos hw
    have HIR : Hid (st.insR who off text = []) := by show _ = _; unfold LDoc.insR; rw [HIE.out, if_neg (by decide)]
    rw [HIE.out, HIR.out]
    clear hw HIE HIR h ok
    go_enter Tryz.func17, Tryz.ntmps17
    go_wp2_with fail
    refine HN.out.mono ?_
    rintro e w1 ⟨rfl, hb⟩
    have HB1 := Lib.hid hb
    clear hb
    go_wp2_with fail
    go_ret2
    exact redit_bad HB1.out
set_option maxRecDepth 100000 in
set_option maxHeartbeats 4000000 in
theorem rdelete_doc (who x y : Int) (hx0 : -9223372036854775808 ≤ x) (hx1 : x ≤ 9223372036854775807) (hy0 : -9223372036854775808 ≤ y) (hy1 : y ≤ 9223372036854775807) :
    Calls Tryz.prog 19 #[.pointer (some ⟨b, 0, none⟩), .int .i64 who, .int .i64 x, .int .i64 y] w (REditPost w (st.delE who x y) (st.delR who x y)) := by
  have HD := Lib.hid h
  have HOK := Lib.hid ok
  by_cases hw : LDoc.whoE who = 0
  · have HN := Lib.hid (rmaker_good w B S b st D h ok who hw)
    have HIE : Hid (st.delE who x y = ((st.maker who).del st.book x y).2) := by show _ = _; unfold LDoc.delE; rw [if_neg (by omega)]
    have HIR : Hid (st.delR who x y = if ((st.maker who).del st.book x y).2 = 0 then ((st.maker who).del st.book x y).1.ops else []) := by show _ = _; unfold LDoc.delR; rw [HIE.out]
    have hmn : 0 ≤ (st.maker who).n ∧ (st.maker who).n ≤ 9999 := by
      obtain ⟨k, hk, _, e, h1, h2⟩ := nOf_known HOK.out.known hw
      exact ⟨by rw [e] at h1; exact h1, by rw [e] at h2; exact h2⟩
    have hmo : (st.maker who).ops.length = 0 := rfl
    clear hw h ok
    generalize hr : (st.maker who).del st.book x y = r at *
    obtain ⟨m', k⟩ := r
    simp only at HIE HIR
    have HRR := Lib.hid hr
    clear hr
    have hmn0 := hmn.1
    have hmn1 := hmn.2
    clear hmn
    generalize st.maker who = m at *
    rw [HIE.out, HIR.out]
    clear HIE HIR
    generalize hres : (if k = 0 then m'.ops else []) = res
    have HRES := Lib.hid hres
    clear hres
    go_enter Tryz.func19, Tryz.ntmps19
    go_wp2_with fail
    refine HN.out.mono ?_
    rintro e w1 ⟨bm, rfl, hm, hb⟩
    have HM := Lib.hid hm
    have HB1 := Lib.hid hb
    have d0 : w1.cell? ⟨b, 0, none⟩ = some (.slice D.a1 st.book.length D.c1) := by rw [(HD.out.below hb).blk.cell]; rfl
    have HI : Hid (Calls Tryz.prog 58 #[.pointer (some ⟨bm, 0, none⟩), .slice D.a1 st.book.length D.c1, .int .i64 x, .int .i64 y] w1 fun e w' => e = .returned (.int .i64 k) ∧ RMkTo w1 w.heap.size bm none m' w') := by
      have := rmkDel_any w1 w.heap.size bm m none 0 [] hm hb.size D.a1 D.c1 st.book (HD.out.below hb).book.row HOK.out.book (fun hn g hg => ⟨fun e => by
        have h1 := HD.out.book.lt hn g hg
        have h2 := hm.base
        omega, by simp [ob]⟩) x y hx0 hx1 hy0 hy1 hmn0 (by omega) (by omega)
      rw [HRR.out] at this
      exact this
    clear hm hb HN
    go_wp2_with fail
    refine HI.out.mono ?_
    rintro e w3 ⟨rfl, ht3⟩
    have HB3 := Lib.hid (HB1.out.trans (RMkTo.below HM.out ht3 (Nat.le_refl _) HB1.out.size))
    obtain ⟨V', c', ys', hm3, _, _⟩ := ht3
    have HM3 := Lib.hid hm3
    have HDN := Lib.hid (rtold_any w3 _ _ _ _ _ _ hm3 k)
    clear hm3 HI
    go_wp2_with fail
    refine HDN.out.mono ?_
    rintro e w4 ⟨rfl, rfl⟩
    have HF : Hid (∃ V2 c2 ys2, (if k = 0 then Value.slice V' ys'.length c' else .slice none 0 0) = .slice V2 ys2.length c2 ∧ ys2.map OpAt.op = (if k = 0 then m'.ops else []) ∧ OwnOps w4 w.heap.size V2 c2 ys2) := by
      by_cases hk : k = 0
      · rw [if_pos hk, if_pos hk]; exact ⟨_, _, _, rfl, HM3.out.same, HM3.out.ops⟩
      · rw [if_neg hk, if_neg hk]; exact ⟨none, 0, [], rfl, rfl, ⟨Own.nil _ _ _ _, by simp⟩⟩
    obtain ⟨V2, c2, ys2, f1, f2, f3⟩ := HF.out
    rw [f1]
    have F2 := Lib.hid f2
    have F3 := Lib.hid f3
    clear HF f1 f2 f3 HDN
    go_wp2_with fail
    go_ret2
    exact ⟨V2, c2, ys2, rfl, by rw [← HRES.out]; exact F2.out, F3.out, HB3.out⟩
  · have HN := Lib.hid (rmaker_bad w b who hw)
    have HIE : Hid (st.delE who x y = 1) := if_pos hw
    have HIR : Hid (st.delR who x y = []) := by show _ = _; unfold LDoc.delR; rw [HIE.out, if_neg (by decide)]
    rw [HIE.out, HIR.out]
    clear hw HIE HIR h ok
    go_enter Tryz.func19, Tryz.ntmps19
    go_wp2_with fail
    refine HN.out.mono ?_
    rintro e w1 ⟨rfl, hb⟩
    have HB1 := Lib.hid hb
    clear hb
    go_wp2_with fail
    go_ret2
    exact redit_bad HB1.out
end
end Go.Proofs.YteiadcdaleckjaaGreatDoor
/- (*leafref2.Doc).Split, walked: cut, and joined. Conditions: the document is right; the numbers are of 64 bits. -/
namespace Go.Proofs.YteiadcdaleckjaaGreatDoor
open Go.RowKit
set_option linter.unusedVariables false
theorem at_zero {st : LDoc} (ok : st.Ok) (off : Int) : (atErr st.book off = 0 ↔ 0 ≤ off ∧ 0 ≤ nthFrom 0 st.book off) ∧ (atErr st.book off ≠ 0 → atErr st.book off = 1) := by
  have hb : bookErr st.book = 0 := bookErr_zero ok.book
  unfold atErr
  rw [if_neg (by omega)]
  split
  · exact ⟨by omega, fun _ => rfl⟩
  · exact ⟨by omega, fun h => absurd rfl h⟩
def FuseMid (w w2 : World) (l : List LDot) (v : Value) (wx : World) : Prop := ∃ V c, v = .slice V l.length c ∧ Own wx w2.heap.size 30 2 V l.length c (dcells l) ∧ Below w.heap.size w wx ∧ Below w2.heap.size w2 wx
section
variable (w : World) (B : Nat) (S : List Nat) (b : Nat) (st : LDoc) (D : RLay) (h : RDocIs w B S b st D) (ok : st.Ok)
include h ok
theorem rmaker_either (who : Int) :
    Calls Tryz.prog 47 #[.pointer (some ⟨b, 0, none⟩), .int .i64 who] w (fun e w' => ∃ p q, e = .returned (.tuple #[.pointer p, .bool q]) ∧ (q = true → LDoc.whoE who = 0) ∧ Below w.heap.size w w') := by
  by_cases hw : LDoc.whoE who = 0
  · refine (rmaker_good w B S b st D h ok who hw).mono ?_
    rintro e w' ⟨bm, rfl, _, hb⟩
    exact ⟨_, _, rfl, fun _ => hw, hb⟩
  · refine (rmaker_bad w b who hw).mono ?_
    rintro e w' ⟨rfl, hb⟩
    exact ⟨_, _, rfl, (fun h => by cases h), hb⟩
set_option maxRecDepth 100000 in
set_option maxHeartbeats 4000000 in
theorem rsplit_bad (f : Bool) (who off : Int) (ho : off ≤ 9223372036854775807) (hbad : LDoc.whoE who ≠ 0 ∨ atErr st.book off ≠ 0) :
    Calls Tryz.prog 21 #[.pointer (some ⟨b, 0, none⟩), .int .i64 who, .int .i64 off, .bool f] w (REditPost w 1 []) := by
  have HD := Lib.hid h
  have HN := Lib.hid (rmaker_either w B S b st D h ok who)
  have HAT := (at_zero ok off).1
  have hfew := ok.book.few
  by_cases h0 : 0 ≤ off
  · have HNT := Lib.hid (fun W (hb : Below w.heap.size w W) => rnth_any W D.a1 D.c1 st.book off (h.below hb).book.row (by omega) h0)
    have hneg : LDoc.whoE who = 0 → nthFrom 0 st.book off < 0 := fun hw => by
      rcases hbad with hb | hb
      · exact absurd hw hb
      · rw [Ne, HAT] at hb; omega
    clear h ok hbad HAT
    generalize nthFrom 0 st.book off = n at *
    go_enter Tryz.func21, Tryz.ntmps21
    go_wp2_with fail
    refine HN.out.mono ?_
    rintro e w1 ⟨p, q, rfl, hq, hb⟩
    have d0 : w1.cell? ⟨b, 0, none⟩ = some (.slice D.a1 st.book.length D.c1) := by rw [(HD.out.below hb).blk.cell]; rfl
    have HB1 := Lib.hid hb
    have HNW := Lib.hid (HNT.out w1 hb)
    clear hb HN HNT
    cases q with
    | false =>
      go_wp2_with fail
      refine HNW.out.mono ?_
      rintro e w2 ⟨rfl, hb2⟩
      have HB2 := Lib.hid (HB1.out.trans (hb2.mono HB1.out.size))
      clear hb2
      go_wp2_with fail
      go_ret2
      exact redit_bad HB2.out
    | true =>
      have hn := hneg (hq rfl)
      go_wp2_with fail
      refine HNW.out.mono ?_
      rintro e w2 ⟨rfl, hb2⟩
      have HB2 := Lib.hid (HB1.out.trans (hb2.mono HB1.out.size))
      clear hb2
      go_wp2_with fail
      go_ret2
      exact redit_bad HB2.out
  · have h1 : off < 0 := by omega
    clear h ok hbad HAT
    go_enter Tryz.func21, Tryz.ntmps21
    go_wp2_with fail
    refine HN.out.mono ?_
    rintro e w1 ⟨p, q, rfl, hq, hb⟩
    have HB1 := Lib.hid hb
    clear hb HN
    cases q with
    | false =>
      go_wp2_with fail
      go_ret2
      exact redit_bad HB1.out
    | true =>
      go_wp2_with fail
      go_ret2
      exact redit_bad HB1.out
set_option maxRecDepth 100000 in
set_option maxHeartbeats 4000000 in
theorem rsplit_good (who off : Int) (ho : off ≤ 9223372036854775807) (hw : LDoc.whoE who = 0) (he : atErr st.book off = 0) :
    Calls Tryz.prog 21 #[.pointer (some ⟨b, 0, none⟩), .int .i64 who, .int .i64 off, .bool false] w (REditPost w 0 ((st.maker who).add ⟨⟨0, 0⟩, 3, st.spot off, 0, []⟩).ops) := by
  have HD := Lib.hid h
  have HN := Lib.hid (rmaker_good w B S b st D h ok who hw)
  obtain ⟨h0, hz⟩ := (at_zero ok off).1.1 he
  have hfew := ok.book.few
  obtain ⟨n, hn, en⟩ := nth_lt _ _ _ hz
  rw [Nat.zero_add] at en
  have HNT := Lib.hid (fun W (hb : Below w.heap.size w W) => rnth_any W D.a1 D.c1 st.book off (h.below hb).book.row (by omega) h0)
  rw [en] at HNT
  have HS : Hid (st.spot off = st.book[n].place) := by show _ = _; unfold LDoc.spot; rw [en]; simp [List.getD, hn]
  obtain ⟨ad, ha, _⟩ := h.book.row.leaf hn
  have HCL : Hid (∀ W, Below w.heap.size w W → W.cell? (ad.add (n * 3)) = some (.string st.book[n].place)) := fun W hb => by
    obtain ⟨ad', e, _, c0, _⟩ := ((h.below hb).book.row).leaf hn
    rw [ha] at e
    injection e with e
    subst e
    exact c0
  have HCB : Hid (∀ W, Below w.heap.size w W → W.cell? ⟨b, 0, none⟩ = some (.slice (some ad) st.book.length D.c1)) := fun W hb => by rw [(h.below hb).blk.cell, ← ha]; rfl
  rw [ha] at HNT
  have hmn : 0 ≤ (st.maker who).n ∧ (st.maker who).n ≤ 9999 := by
    obtain ⟨k, hk, _, e, h1, h2⟩ := nOf_known ok.known hw
    exact ⟨by rw [e] at h1; exact h1, by rw [e] at h2; exact h2⟩
  have n0 : (0 : Int) ≤ (n : Int) := by omega
  have n1 : (n : Int) < (st.book.length : Int) := by omega
  rw [HS.out]
  clear h ok hw he hz en ha HS
  generalize st.book[n].place = p at *
  generalize st.maker who = m at *
  go_enter Tryz.func21, Tryz.ntmps21
  go_wp2_with fail
  refine HN.out.mono ?_
  rintro e w1 ⟨bm, rfl, hm, hb⟩
  have d0 := HCB.out w1 hb
  have HB1 := Lib.hid hb
  have HM1 := Lib.hid hm
  have HNW := Lib.hid (HNT.out w1 hb)
  clear hb HN HNT hm
  go_wp2_with fail
  refine HNW.out.mono ?_
  rintro e w2 ⟨rfl, hb2⟩
  have HB2 := Lib.hid (HB1.out.trans (hb2.mono HB1.out.size))
  have HM2 := Lib.hid (HM1.out.below hb2)
  have d1 := HCB.out w2 HB2.out
  have d2 := HCL.out w2 HB2.out
  have HAD := Lib.hid (rmkAdd_any w2 w.heap.size bm m none 0 [] HM2.out HB2.out.size ⟨⟨0, 0⟩, 3, p, 0, []⟩ none 0 (Own.nil _ _ _ _) (by omega) (by omega) (by simp))
  unfold LOp.val at HAD
  simp only [List.length_nil] at HAD
  clear hb2 HNW d0 HM1
  go_wp2_with fail
  refine HAD.out.mono ?_
  rintro e w3 ⟨rfl, ht⟩
  obtain ⟨V', c', ys', q1, q2, q3, q4⟩ := RMkTo.edit HB2.out HM2.out ht
  have Q2 := Lib.hid q2
  have Q3 := Lib.hid q3
  have Q4 := Lib.hid q4
  clear ht HAD q2 q3 q4 d1 d2
  go_wp2_with fail
  go_ret2
  exact ⟨V', c', ys', rfl, Q2.out, Q3.out, Q4.out⟩
theorem rsplit_doc (who off : Int) (ho : off ≤ 9223372036854775807) :
    Calls Tryz.prog 21 #[.pointer (some ⟨b, 0, none⟩), .int .i64 who, .int .i64 off, .bool false] w (REditPost w (st.splE who off) (st.splR who off)) := by
  by_cases hw : LDoc.whoE who = 0
  · by_cases he : atErr st.book off = 0
    · have e1 : st.splE who off = 0 := by unfold LDoc.splE; rw [if_neg (by omega), he]
      have e2 : st.splR who off = ((st.maker who).add ⟨⟨0, 0⟩, 3, st.spot off, 0, []⟩).ops := by unfold LDoc.splR; rw [if_pos e1]
      rw [e1, e2]
      exact rsplit_good w B S b st D h ok who off ho hw he
    · have e1 : st.splE who off = 1 := by unfold LDoc.splE; rw [if_neg (by omega), (at_zero ok off).2 he]
      have e2 : st.splR who off = [] := by unfold LDoc.splR; rw [e1, if_neg (by decide)]
      rw [e1, e2]
      exact rsplit_bad w B S b st D h ok false who off ho (.inr he)
  · have e1 : st.splE who off = 1 := if_pos hw
    have e2 : st.splR who off = [] := by unfold LDoc.splR; rw [e1, if_neg (by decide)]
    rw [e1, e2]
    exact rsplit_bad w B S b st D h ok false who off ho (.inl hw)
set_option maxRecDepth 100000 in
set_option maxHeartbeats 4000000 in
theorem rfuse_good (who off : Int) (ho : off ≤ 9223372036854775807) (hw : LDoc.whoE who = 0) (he : atErr st.book off = 0) :
    Calls Tryz.prog 21 #[.pointer (some ⟨b, 0, none⟩), .int .i64 who, .int .i64 off, .bool true] w (REditPost w (if seenAt st.marks (st.spot off) = [] then 5 else 0) (if seenAt st.marks (st.spot off) = [] then [] else ((st.maker who).add ⟨⟨0, 0⟩, 4, st.spot off, 0, seenAt st.marks (st.spot off)⟩).ops)) := by
  have HD := Lib.hid h
  have HN := Lib.hid (rmaker_good w B S b st D h ok who hw)
  obtain ⟨h0, hz⟩ := (at_zero ok off).1.1 he
  have hfew := ok.book.few
  have hfewm := ok.marks.few
  have HMR := Lib.hid (fun W (hb : Below w.heap.size w W) => (h.below hb).marks.row)
  have HCM : Hid (∀ W, Below w.heap.size w W → W.cell? ⟨b, 1, none⟩ = some (.slice D.a2 st.marks.length D.c2)) := fun W hb => by rw [(h.below hb).blk.cell]; rfl
  obtain ⟨n, hn, en⟩ := nth_lt _ _ _ hz
  rw [Nat.zero_add] at en
  have HNT := Lib.hid (fun W (hb : Below w.heap.size w W) => rnth_any W D.a1 D.c1 st.book off (h.below hb).book.row (by omega) h0)
  rw [en] at HNT
  have HS : Hid (st.spot off = st.book[n].place) := by show _ = _; unfold LDoc.spot; rw [en]; simp [List.getD, hn]
  obtain ⟨ad, ha, _⟩ := h.book.row.leaf hn
  have HCL : Hid (∀ W, Below w.heap.size w W → W.cell? (ad.add (n * 3)) = some (.string st.book[n].place)) := fun W hb => by
    obtain ⟨ad', e, _, c0, _⟩ := ((h.below hb).book.row).leaf hn
    rw [ha] at e
    injection e with e
    subst e
    exact c0
  have HCB : Hid (∀ W, Below w.heap.size w W → W.cell? ⟨b, 0, none⟩ = some (.slice (some ad) st.book.length D.c1)) := fun W hb => by rw [(h.below hb).blk.cell, ← ha]; rfl
  rw [ha] at HNT
  have hmn : 0 ≤ (st.maker who).n ∧ (st.maker who).n ≤ 9999 := by
    obtain ⟨k, hk, _, e, h1, h2⟩ := nOf_known ok.known hw
    exact ⟨by rw [e] at h1; exact h1, by rw [e] at h2; exact h2⟩
  have n0 : (0 : Int) ≤ (n : Int) := by omega
  have n1 : (n : Int) < (st.book.length : Int) := by omega
  rw [HS.out]
  clear h ok hw he hz en ha HS
  generalize st.book[n].place = p at *
  generalize st.maker who = m at *
  generalize hkE : (if seenAt st.marks p = [] then (5 : Int) else 0) = kE
  generalize hlR : (if seenAt st.marks p = [] then [] else (m.add ⟨⟨0, 0⟩, 4, p, 0, seenAt st.marks p⟩).ops) = lR
  have HKE := Lib.hid hkE
  have HLR := Lib.hid hlR
  clear hkE hlR
  go_enter Tryz.func21, Tryz.ntmps21
  go_wp2_with fail
  refine HN.out.mono ?_
  rintro e w1 ⟨bm, rfl, hm, hb⟩
  have d0 := HCB.out w1 hb
  have HB1 := Lib.hid hb
  have HM1 := Lib.hid hm
  have HNW := Lib.hid (HNT.out w1 hb)
  clear hb HN HNT hm
  go_wp2_with fail
  refine HNW.out.mono ?_
  rintro e w2 ⟨rfl, hb2⟩
  have HB2 := Lib.hid (HB1.out.trans (hb2.mono HB1.out.size))
  have HM2 := Lib.hid (HM1.out.below hb2)
  have d1 := HCB.out w2 HB2.out
  have d2 := HCL.out w2 HB2.out
  clear hb2 HNW d0 HM1
  have d3 := HCM.out w2 HB2.out
  go_upto_block 0 with (fail)
  go_cut [14] (fun v wx => FuseMid w w2 (seenAt st.marks p) v wx)
  case first =>
    go_wp2_with fail
    go_loopw [14, 15] (fun v i wr => SeenLoop w2 st.marks p v i wr) (fun _ i _ => st.marks.length - (intOf i).toNat)
    case atStart => exact ⟨0, 0, none, Nat.zero_le _, rfl, rfl, Own.nil _ _ _ _, Below.refl _ _⟩
    case round =>
      obtain ⟨k, cv, V, hk, rfl, rfl, HO, HB⟩ := hrel
      have HBW := Lib.hid (HB2.out.trans (HB.out.mono HB2.out.size))
      have m0 := HCM.out _ HBW.out
      have hle := seenAt_len (st.marks.take k) p
      rw [List.length_take] at hle
      have hle2 : (seenAt (st.marks.take k) p).length ≤ k := by omega
      clear hle
      by_cases hkn : k < st.marks.length
      · obtain ⟨am, hA, hb, c0, c1, c2⟩ := (HMR.out _ HBW.out).mark hkn
        rw [hA] at m0
        have hlt : (k : Int) < (st.marks.length : Int) := by omega
        have hk0 : (0 : Int) ≤ (k : Int) := by omega
        have HTK := Lib.hid (seenAt_take (l := st.marks) (p := p) hkn)
        generalize st.marks[k] = x at c0 c1 c2 HTK
        generalize seenAt (st.marks.take k) p = T at HTK hle2 HO ⊢
        obtain ⟨q, ⟨d, n⟩⟩ := x
        simp only at c0 c1 c2
        have hszb : w2.heap.size ≤ wr.heap.size := HB.out.size
        by_cases hp : q = p
        · have HT : Hid (seenAt (st.marks.take (k + 1)) p = T ++ [⟨d, n⟩]) := by show _ = _; rw [HTK.out, if_pos hp]
          have g0 : (q.toList == p.toList) = true := by rw [hp]; simp
          have hF : Fits (T.length + 1) 16 := Fits.of_small (by omega) (by decide)
          have HRW : Hid (Reads (wr.alloc (.cells #[.int .i64 d, .int .i64 n] 30)) (wr.heap.size + 1) 2 (some ⟨wr.heap.size, 0, none⟩) 1 (dcells [⟨d, n⟩])) := Reads.row wr 30 #[.int .i64 d, .int .i64 n]
          clear hp HTK
          go_wp2_with (at_builtin; go_loud (refine wpList_app _ (.tmp 73) (.tmp 82) rfl rfl elemD rfl rfl (HO.out.alloc _) HRW.out (oneCells_d [⟨d, n⟩]) hF (by simp; omega) ?_; intro V2 cv2 w4 HO2 HL2 HX2; have HOn := Lib.hid HO2; have HBn : Hid (Below w2.heap.size w2 w4) := (HB.out.alloc HB.out.size _).trans (HL2.below (by simp; omega) (fun g hg => (HO.out.lt g hg).1)); clear HO2 HL2 HX2))
          go_roundw
          case rel =>
            refine ⟨k + 1, cv2, V2, by omega, by go_num, by rw [HT.out, List.length_append]; rfl, Lib.hid ?_, HBn⟩
            rw [HT.out, List.length_append, ← dcells_append]
            exact HOn.out
          case measure => simp [intOf]; omega
        · have HT : Hid (seenAt (st.marks.take (k + 1)) p = T) := by show _ = _; rw [HTK.out, if_neg hp, List.append_nil]
          have g0 : (q.toList == p.toList) = false := by rw [beq_eq_false_iff_ne]; exact fun h => hp (tl_inj h)
          clear hp HTK
          go_wp2_with fail
          go_roundw
          case rel =>
            refine ⟨k + 1, cv, V, by omega, by go_num, by rw [HT.out], Lib.hid ?_, HB⟩
            rw [HT.out]
            exact HO.out
          case measure => simp [intOf]; omega
      · have hd : ¬ (k : Int) < (st.marks.length : Int) := by omega
        have HT : Hid (st.marks.take k = st.marks) := List.take_of_length_le (by omega)
        rw [HT.out] at HO ⊢
        go_wp2_with fail
        go_meet
        case rel => exact ⟨V, cv, rfl, HO.out, HBW.out, HB.out⟩
  case rest =>
    obtain ⟨V, c, rfl, hO, hbc, hbc2⟩ := hcut
    obtain ⟨w5, hw5⟩ : ∃ x : World, x = wc := ⟨_, rfl⟩
    subst hw5
    have HO := Lib.hid hO
    have HB5 := Lib.hid hbc
    have HM5 := Lib.hid (HM2.out.below hbc2)
    have hs2 : w.heap.size ≤ w2.heap.size := HB2.out.size
    clear hO hbc hbc2 HM2 d1 d2 d3 HMR HCM
    have hsl : (seenAt st.marks p).length ≤ 1000 := by have := seenAt_len st.marks p; omega
    by_cases hs : seenAt st.marks p = []
    · have HSE := Lib.hid hs
      rw [hs]
      clear hs hsl HO
      go_wp2_with fail
      go_ret2
      rw [← HKE.out, ← HLR.out, if_pos HSE.out, if_pos HSE.out]
      exact redit_bad HB5.out
    · have HSE := Lib.hid hs
      have hpos : 0 < (seenAt st.marks p).length := List.length_pos_iff.2 hs
      have hz : (((seenAt st.marks p).length : Int) == 0) = false := by rw [beq_eq_false_iff_ne]; omega
      clear hs
      generalize seenAt st.marks p = seen at *
      have HAD : Hid (Calls _ _ _ _ _) := rmkAdd_any w5 w.heap.size bm m none 0 [] HM5.out HB5.out.size ⟨⟨0, 0⟩, 4, p, 0, seen⟩ V c (HO.out.mono hs2) (by omega) (by omega) (by simp)
      unfold LOp.val at HAD
      clear hpos hsl HO
      go_wp2_with fail
      refine HAD.out.mono ?_
      rintro e w6 ⟨rfl, ht⟩
      obtain ⟨V', c', ys', q1, q2, q3, q4⟩ := RMkTo.edit HB5.out HM5.out ht
      have Q2 := Lib.hid q2
      have Q3 := Lib.hid q3
      have Q4 := Lib.hid q4
      clear ht HAD q2 q3 q4
      go_wp2_with fail
      go_ret2
      rw [← HKE.out, ← HLR.out, if_neg HSE.out, if_neg HSE.out]
      exact ⟨V', c', ys', rfl, Q2.out, Q3.out, Q4.out⟩
theorem rfuse_doc (who off : Int) (ho : off ≤ 9223372036854775807) :
    Calls Tryz.prog 21 #[.pointer (some ⟨b, 0, none⟩), .int .i64 who, .int .i64 off, .bool true] w (REditPost w (st.fusE who off) (st.fusR who off)) := by
  by_cases hw : LDoc.whoE who = 0
  · by_cases he : atErr st.book off = 0
    · have key := rfuse_good w B S b st D h ok who off ho hw he
      by_cases hs : seenAt st.marks (st.spot off) = []
      · have e1 : st.fusE who off = 5 := by unfold LDoc.fusE; rw [if_neg (by omega), if_neg (by omega), if_pos hs]
        have e2 : st.fusR who off = [] := by unfold LDoc.fusR; rw [e1, if_neg (by decide)]
        rw [if_pos hs, if_pos hs] at key
        rw [e1, e2]
        exact key
      · have e1 : st.fusE who off = 0 := by unfold LDoc.fusE; rw [if_neg (by omega), if_neg (by omega), if_neg hs]
        have e2 : st.fusR who off = ((st.maker who).add ⟨⟨0, 0⟩, 4, st.spot off, 0, seenAt st.marks (st.spot off)⟩).ops := by unfold LDoc.fusR; rw [if_pos e1]
        rw [if_neg hs, if_neg hs] at key
        rw [e1, e2]
        exact key
    · have e1 : st.fusE who off = 1 := by unfold LDoc.fusE; rw [if_neg (by omega), if_pos he, (at_zero ok off).2 he]
      have e2 : st.fusR who off = [] := by unfold LDoc.fusR; rw [e1, if_neg (by decide)]
      rw [e1, e2]
      exact rsplit_bad w B S b st D h ok true who off ho (.inr he)
  · have e1 : st.fusE who off = 1 := if_pos hw
    have e2 : st.fusR who off = [] := by unfold LDoc.fusR; rw [e1, if_neg (by decide)]
    rw [e1, e2]
    exact rsplit_bad w B S b st D h ok true who off ho (.inl hw)
end
end Go.Proofs.YteiadcdaleckjaaGreatDoor
/- From a walk to a given statement: one theorem that serves every law of the seat. Conditions: none of our own. -/
namespace Go.Proofs.YteiadcdaleckjaaGreatDoor
open Go.RowKit Go.WideShapes Go.ChangeShapes Go.ChangeAt
set_option linter.unusedVariables false

section
variable {H : Type} {enc : TypeId × Value → H} {P : Program}

theorem post_of_below {f : Func} {s : ChangeSpec} {apart fresh handsOn again : Bool} {W W' : World} {args : Array Value} {v : Value} {ds gs : List (DataW H)} {before pa pv : List MemPlace}
    (hW : DataW.Whole enc P f.params.toList s.vars apart W args.toList ds gs before)
    (hres : ∀ (b : Nat) (sp : Nat → Bool) (hd : Bool), DataW.TrodAll enc P W' b sp hd f.resultTypes.toList (v.resultList f.resultTypes.size) (s.fn H (ds ++ gs)).results [])
    (hargs : ∀ sp : Nat → Bool, (∀ p ∈ before, sp p.block = true) → DataW.TrodAll enc P W' 0 sp true f.params.toList args.toList (s.fn H (ds ++ gs)).args pa)
    (hvars : ∀ sp : Nat → Bool, (∀ p ∈ before, sp p.block = true) → DataW.TrodVars enc P W' sp s.vars (s.fn H (ds ++ gs)).vars pv)
    (hps : before = pa ++ pv) (hb : Below W.heap.size W W')
    (hok : ∀ (j : Nat) (t : TypeId) (r : Value), f.resultTypes[j]? = some t → (v.resultList f.resultTypes.size)[j]? = some r → Value.okWide P W' .any 0 t r) :
    s.post enc P f apart fresh handsOn again W args v W' := by
  have hlt : ∀ p ∈ before, p.block < W.heap.size := fun p hp => hW.lt p hp
  have hold : ∀ p ∈ before, (fun b => decide (b < W.heap.size)) p.block = true := fun p hp => by simpa using hlt p hp
  refine ⟨ds, gs, before, [], pa, pv, hW, hres _ _ _, hargs _ hold, hvars _ hold, World.keptBut_mono (fun p hp => ⟨hp, ?_⟩) (hb.frame (· ∈ before)), fun _ => ?_⟩
  · rw [hps, List.mem_append] at hp
    exact Or.inr hp
  · obtain ⟨_, _, _, _, _, hz, hn⟩ := hW
    refine ⟨hok, _, _, ([] ++ pa) ++ pv, ⟨[] ++ pa, pv, trodAll_append (hargs _ (fun _ _ => rfl)) (hres _ _ _), hvars _ (fun _ _ => rfl), rfl, ?_, ?_⟩, ?_⟩
    · intro b off hp
      have hin : MemPlace.cell b off ∈ before := by rw [hps]; simpa using hp
      rw [hb.frozen (hlt _ hin)]
      exact hz b off hin
    · intro ha
      have := hn ha
      rw [hps] at this
      simpa using this
    · intro p hp _
      rw [hps]
      simpa using hp

theorem trodAll_below (hl : laidOutB P = true) {W W' : World} (hb : Below W.heap.size W W') {sp : Nat → Bool} :
    ∀ (ts : List TypeId) (vs : List Value) (ds : List (DataW H)) (ps : List MemPlace), (∀ t ∈ ts, P.readableRec t = true ∧ t < P.types.size) → (∀ p ∈ ps, p.block < W.heap.size) → (∀ p ∈ ps, sp p.block = true) →
      DataW.TrodAll enc P W 0 (fun _ => true) true ts vs ds ps → DataW.TrodAll enc P W' 0 sp true ts vs ds ps := by
  intro ts
  induction ts with
  | nil => intro vs ds ps _ _ _ h; cases vs <;> cases ds <;> simp_all [DataW.TrodAll]
  | cons t ts ih =>
    intro vs ds ps ht hlt hs h
    cases vs with
    | nil => simp [DataW.TrodAll] at h
    | cons v vs =>
      cases ds with
      | nil => simp [DataW.TrodAll] at h
      | cons d ds =>
        obtain ⟨p, q, h1, h2, rfl⟩ := h
        exact ⟨p, q, WideElems.Trod_stays hl (ht t (by simp)).1 (ht t (by simp)).2 h1 (fun x hx => hb.same (hlt x (by simp [hx]))) (fun x hx => hs x (by simp [hx])),
          ih vs ds q (fun t' h' => ht t' (by simp [h'])) (fun x hx => hlt x (by simp [hx])) (fun x hx => hs x (by simp [hx])) h2, rfl⟩

/-- A law: it answered true, and nothing that was there has turned. -/
theorem law_post (hl : laidOutB P = true) {f : Func} {s : ChangeSpec} {apart fresh handsOn again : Bool} {tb : TypeId} {W W' : World} {args : Array Value} {ds gs : List (DataW H)} {before : List MemPlace}
    (hr : f.resultTypes = #[tb]) (htb : P.underlying tb = some .bool) (hp : ∀ t ∈ f.params.toList, P.readableRec t = true ∧ t < P.types.size) (hv : s.vars = [])
    (hfn : s.fn H ds = { results := [.lit (.bool true)], args := ds })
    (hW : DataW.Whole enc P f.params.toList s.vars apart W args.toList ds gs before) (hb : Below W.heap.size W W') :
    s.post enc P f apart fresh handsOn again W args (.bool true) W' := by
  have hW' := hW
  obtain ⟨p, q, hA, hV, hpq, hfz, hnd⟩ := hW
  have hlt : ∀ x ∈ before, x.block < W.heap.size := fun x hx => hW'.lt x hx
  rw [hv] at hV
  obtain ⟨hgs, hq⟩ := trodVars_none hV
  subst hgs; subst hq
  simp only [List.append_nil] at hpq
  subst hpq
  refine post_of_below (pa := before) (pv := []) hW' ?_ ?_ ?_ (by simp) hb ?_
  · intro b sp hd
    rw [List.append_nil, hfn, hr]
    exact trodAll_mk1 (shut_bool htb _)
  · intro sp hs
    rw [List.append_nil, hfn]
    exact trodAll_below hl hb _ _ _ _ hp hlt hs hA
  · intro sp hs
    rw [List.append_nil, hfn, hv]
    exact rfl
  · exact ok_one hr rfl (okWide_bool_mk htb _)
end

theorem Tryz.own : ownKnob Tryz.prog.godebug = none := by kernel_rfl
theorem Tryz.laidOut : laidOutB Tryz.prog = true := by kernel_rfl
end Go.Proofs.YteiadcdaleckjaaGreatDoor
/- edit.Delete, walked. Conditions: the document is right; the numbers are of 64 bits. -/
namespace Go.Proofs.YteiadcdaleckjaaGreatDoor
open Go.RowKit
set_option linter.unusedVariables false
set_option maxRecDepth 100000 in
set_option maxHeartbeats 4000000 in
theorem delete_any (w : World) (B : Nat) (S : List Nat) (b : Nat) (st : LDoc) (D : DLay) (h : DocIs w B S b st D) (ok : st.Ok) (who x y : Int) (hw0 : -9223372036854775808 ≤ who) (hw1 : who ≤ 9223372036854775807) (hx0 : -9223372036854775808 ≤ x) (hx1 : x ≤ 9223372036854775807) (hy0 : -9223372036854775808 ≤ y) (hy1 : y ≤ 9223372036854775807) :
    Calls Tryz.prog 20 #[.pointer (some ⟨b, 0, none⟩), .int .i64 who, .int .i64 x, .int .i64 y] w (EditPost w (st.delE who x y) (st.delR who x y)) := by
  have HN := Lib.hid (newMk_any w B S b st D h ok who hw0 hw1)
  have HD := Lib.hid h
  have HOK := Lib.hid ok
  have HE0 : errV 0 = .nilIface := rfl
  have HE1 := errV_ne (show (1 : Int) ≠ 0 by decide)
  clear h ok
  by_cases hw : LDoc.whoE who = 0
  · have HN : Hid (Calls Tryz.prog 52 #[.pointer (some ⟨b, 0, none⟩), .int .i64 who] w fun e w' => ∃ b, e = .returned (.tuple #[.pointer (some ⟨b, 0, none⟩), .nilIface]) ∧ MkIs w' w.heap.size b (st.maker who) none 0 [] ∧ Below w.heap.size w w') :=
      HN.out.mono fun e w' hh => by
        rcases hh with ⟨_, h1⟩ | ⟨h1, _⟩
        · exact h1
        · exact absurd hw h1
    have HIE : Hid (st.delE who x y = ((st.maker who).del st.book x y).2) := by show _ = _; unfold LDoc.delE; rw [if_neg (by omega)]
    have HIR : Hid (st.delR who x y = if ((st.maker who).del st.book x y).2 = 0 then ((st.maker who).del st.book x y).1.ops else []) := by show _ = _; unfold LDoc.delR; rw [HIE.out]
    have hmn : 0 ≤ (st.maker who).n ∧ (st.maker who).n ≤ 9999 := by
      obtain ⟨k, hk, _, e, h1, h2⟩ := nOf_known HOK.out.known hw
      exact ⟨by rw [e] at h1; exact h1, by rw [e] at h2; exact h2⟩
    have hmo : (st.maker who).ops.length = 0 := rfl
    clear hw
    generalize hr : (st.maker who).del st.book x y = r at *
    obtain ⟨m', k⟩ := r
    simp only at HIE HIR
    have HRR := Lib.hid hr
    clear hr
    have hmn0 := hmn.1
    have hmn1 := hmn.2
    clear hmn
    generalize st.maker who = m at *
    rw [HIE.out, HIR.out]
    clear HIE HIR
    generalize hres : (if k = 0 then m'.ops else []) = res
    have HRES := Lib.hid hres
    clear hres
    go_enter Tryz.func20, Tryz.ntmps20
    go_wp2_with fail
    refine HN.out.mono ?_
    rintro e w1 ⟨bm, rfl, hm, hb⟩
    have HM := Lib.hid hm
    have HB1 := Lib.hid hb
    have HBK := Lib.hid (book_doc w1 _ _ _ _ _ (HD.out.below hb) HOK.out)
    clear hm hb HN
    go_wp2_with fail
    refine HBK.out.mono ?_
    rintro e w2 ⟨V, c, rfl, hO, hb⟩
    have HB2 := Lib.hid (HB1.out.trans (hb.mono HB1.out.size))
    have HM2 := Lib.hid (HM.out.below hb)
    have hs2 := HB2.out.size
    have HI : Hid (Calls Tryz.prog 59 #[.pointer (some ⟨bm, 0, none⟩), .slice V st.book.length c, .int .i64 x, .int .i64 y] w2 fun e w' => e = .returned (errV k) ∧ MkTo w2 w.heap.size bm none m' w') := by
      have := mkDel_any w2 w.heap.size bm m none 0 [] HM2.out hs2 V c st.book hO.reads HOK.out.book (fun g hg => ⟨fun e => by
        have h1 := (hO.lt g hg).1
        have h2 := HM.out.blk.lt
        omega, by simp [ob]⟩) x y hx0 hx1 hy0 hy1 hmn0 (by omega) (by omega)
      rw [HRR.out] at this
      exact this
    obtain ⟨ev, hev⟩ : ∃ ev, ev = errV k := ⟨_, rfl⟩
    rw [← hev] at HI
    have HEV := Lib.hid hev
    clear hO hb HBK HM hev
    go_wp2_with fail
    refine HI.out.mono ?_
    rintro e w3 ⟨rfl, ht3⟩
    have HB3 := Lib.hid (HB2.out.trans (MkTo.below HM2.out ht3 (Nat.le_refl _) hs2))
    obtain ⟨V', c', ys', hm3, _, _⟩ := ht3
    have HM3 := Lib.hid hm3
    have HDN := Lib.hid (mkDone_any w3 _ _ _ _ _ _ hm3 k)
    rw [← HEV.out] at HDN
    clear hm3 HI
    go_wp2_with fail
    refine HDN.out.mono ?_
    rintro e w4 ⟨rfl, rfl⟩
    have HF : Hid (∃ V2 c2 ys2, (if k = 0 then Value.slice V' ys'.length c' else .slice none 0 0) = .slice V2 ys2.length c2 ∧ ys2.map OpAt.op = (if k = 0 then m'.ops else []) ∧ OwnOps w4 w.heap.size V2 c2 ys2) := by
      by_cases hk : k = 0
      · rw [if_pos hk, if_pos hk]; exact ⟨_, _, _, rfl, HM3.out.same, HM3.out.ops⟩
      · rw [if_neg hk, if_neg hk]; exact ⟨none, 0, [], rfl, rfl, ⟨Own.nil _ _ _ _, by simp⟩⟩
    obtain ⟨V2, c2, ys2, f1, f2, f3⟩ := HF.out
    rw [f1]
    have F2 := Lib.hid f2
    have F3 := Lib.hid f3
    clear HF f1 f2 f3 HDN
    go_wp2_with fail
    go_ret2
    exact ⟨V2, c2, ys2, by rw [← HEV.out]; rfl, by rw [← HRES.out]; exact F2.out, F3.out, HB3.out⟩
  · have HN : Hid (Calls Tryz.prog 52 #[.pointer (some ⟨b, 0, none⟩), .int .i64 who] w fun e w' => e = .returned (.tuple #[.pointer none, errV 1]) ∧ Below w.heap.size w w') :=
      HN.out.mono fun e w' hh => by
        rcases hh with ⟨h1, _⟩ | ⟨_, h1⟩
        · exact absurd h1 hw
        · exact h1
    have HIE : Hid (st.delE who x y = 1) := if_pos hw
    have HIR : Hid (st.delR who x y = []) := by show _ = _; unfold LDoc.delR; rw [HIE.out, if_neg (by decide)]
    rw [HIE.out, HIR.out]
    rw [HE1] at HN
    clear hw HIE HIR
    go_enter Tryz.func20, Tryz.ntmps20
    go_wp2_with fail
    refine HN.out.mono ?_
    rintro e w1 ⟨rfl, hb⟩
    have HB1 := Lib.hid hb
    clear hb
    go_wp2_with fail
    go_ret2
    have := edit_bad (k := 1) HB1.out
    rw [HE1] at this
    exact this
end Go.Proofs.YteiadcdaleckjaaGreatDoor
/- leaflaw2.EditTells, walked: which ops any edit of any book is, and what is refused. Conditions: the library's one variable holds what its text lays. -/
namespace Go.Proofs.YteiadcdaleckjaaGreatDoor
open Go.RowKit
set_option linter.unusedVariables false
namespace lawEditTells
set_option maxRecDepth 100000 in
set_option maxHeartbeats 8000000 in
theorem walk (w : World) (A0 : Option Addr) (c0 : Nat) (ys : List OpAt) (who x y : Int) (text : ByteArray) (hglob : Glob w) (h0 : Reads w w.heap.size 6 A0 ys.length (ocells ys)) (hg : ∀ y ∈ ys, y.Good w) (hn0 : ys.length ≤ 9223372036854775807)
    (hw0 : -9223372036854775808 ≤ who) (hw1 : who ≤ 9223372036854775807) (hx0 : -9223372036854775808 ≤ x) (hx1 : x ≤ 9223372036854775807) (hy0 : -9223372036854775808 ≤ y) (hy1 : y ≤ 9223372036854775807) (ht : text.size ≤ 9223372036854775807) :
    Calls Tryz.prog 4 #[.slice A0 ys.length c0, .int .i64 who, .int .i64 x, .int .i64 y, .string text] w (CheckPost w (.bool true)) := by
  have HB := Lib.hid (both_any w A0 c0 ys hglob h0 hg hn0)
  have HR0 := Lib.hid h0
  have HG := Lib.hid hg
  have HGL := Lib.hid hglob
  have HERR := Lib.hid (fun W (hb : Below w.heap.size w W) k => show Calls Tryz.prog 10 #[errV k, .int .i64 k] W (CheckPost W (.bool true)) by
    have := error_any W k k (hglob.below hb (Nat.le_refl _))
    rw [show (k == k) = true by simp] at this
    exact this)
  clear h0 hg hglob
  go_enter Tryz.func4, Tryz.ntmps4
  go_wp2_with fail
  refine HB.out.mono ?_
  rintro e w1 ⟨b1, b2, rfl, hP⟩
  obtain ⟨st, S1, S2, D1, D2, hT, hok, hsay, _⟩ := hP
  have HT := Lib.hid hT
  have OK := Lib.hid hok
  have SAY := Lib.hid hsay
  have HRI := Lib.hid (fun W (hb : Below w1.heap.size w1 W) => rinsert_doc W _ S2 b2 st D2 (hT.two.below hb) hok who x text hx0 hx1 ht)
  have HPI := Lib.hid (fun W (hb : Below w1.heap.size w1 W) => insert_any W _ S1 b1 st D1 (hT.one.below hb) hok who x text hw0 hw1 hx1 ht)
  have HRD := Lib.hid (fun W (hb : Below w1.heap.size w1 W) => rdelete_doc W _ S2 b2 st D2 (hT.two.below hb) hok who x y hx0 hx1 hy0 hy1)
  have HPD := Lib.hid (fun W (hb : Below w1.heap.size w1 W) => delete_any W _ S1 b1 st D1 (hT.one.below hb) hok who x y hw0 hw1 hx0 hx1 hy0 hy1)
  have HRS := Lib.hid (fun W (hb : Below w1.heap.size w1 W) => rsplit_doc W _ S2 b2 st D2 (hT.two.below hb) hok who x hx1)
  have HPS := Lib.hid (fun W (hb : Below w1.heap.size w1 W) => split_any W _ S1 b1 st D1 (hT.one.below hb) hok who x hw0 hw1 hx1)
  have HRF := Lib.hid (fun W (hb : Below w1.heap.size w1 W) => rfuse_doc W _ S2 b2 st D2 (hT.two.below hb) hok who x hx1)
  have HPF := Lib.hid (fun W (hb : Below w1.heap.size w1 W) => fuse_any W _ S1 b1 st D1 (hT.one.below hb) hok who x hw0 hw1 hx1)
  have HW1 := Lib.hid hT.below
  have HB0 : Hid (Below w1.heap.size w1 w1) := Below.refl _ _
  clear hT hok hsay HB
  generalize st.insE who x text = e1 at *
  generalize st.insR who x text = r1 at *
  generalize st.delE who x y = e2 at *
  generalize st.delR who x y = r2 at *
  generalize st.splE who x = e3 at *
  generalize st.splR who x = r3 at *
  generalize st.fusE who x = e4 at *
  generalize st.fusR who x = r4 at *
  go_wp2_with fail
  refine (HRI.out _ HB0.out).mono ?_
  rintro e wa1 ⟨V, c, z, rfl, m1, o1, hb⟩
  have HM1 := Lib.hid m1
  have HO1 := Lib.hid o1
  have HX1 := Lib.hid (HB0.out.trans (hb.mono HB0.out.size))
  clear m1 o1 hb HRI
  go_wp2_with fail
  refine (HPI.out _ HX1.out).mono ?_
  rintro e wb1 ⟨V2, c2, z2, rfl, m2, o2, hb⟩
  have HN1 := Lib.hid m2
  have HQ1 := Lib.hid o2
  have HY1 := Lib.hid (HX1.out.trans (hb.mono HX1.out.size))
  have HZ1 := Lib.hid hb
  have HE1 := Lib.hid (HERR.out wb1 (HW1.out.trans (HY1.out.mono HW1.out.size)) e1)
  clear m2 o2 hb HPI HB0
  go_wp2_with fail
  refine HE1.out.mono ?_
  rintro e wc1 ⟨rfl, hb⟩
  have HU1 := Lib.hid (HY1.out.trans (hb.mono HY1.out.size))
  have HS1 := Lib.hid (ops_two HQ1.out hb HO1.out (HZ1.out.trans (hb.mono HZ1.out.size)) (HN1.out.trans HM1.out.symm))
  clear hb HE1 HY1 HZ1 HQ1 HO1 HM1 HN1 HX1
  go_wp2_with fail
  refine HS1.out.mono ?_
  rintro e wd1 ⟨rfl, hb⟩
  have HA1 := Lib.hid (HU1.out.trans (hb.mono HU1.out.size))
  clear hb HS1 HU1
  go_wp2_with fail
  refine (HRD.out _ HA1.out).mono ?_
  rintro e wa2 ⟨V, c, z, rfl, m1, o1, hb⟩
  have HM2 := Lib.hid m1
  have HO2 := Lib.hid o1
  have HX2 := Lib.hid (HA1.out.trans (hb.mono HA1.out.size))
  clear m1 o1 hb HRD
  go_wp2_with fail
  refine (HPD.out _ HX2.out).mono ?_
  rintro e wb2 ⟨V2, c2, z2, rfl, m2, o2, hb⟩
  have HN2 := Lib.hid m2
  have HQ2 := Lib.hid o2
  have HY2 := Lib.hid (HX2.out.trans (hb.mono HX2.out.size))
  have HZ2 := Lib.hid hb
  have HE2 := Lib.hid (HERR.out wb2 (HW1.out.trans (HY2.out.mono HW1.out.size)) e2)
  clear m2 o2 hb HPD HA1
  go_wp2_with fail
  refine HE2.out.mono ?_
  rintro e wc2 ⟨rfl, hb⟩
  have HU2 := Lib.hid (HY2.out.trans (hb.mono HY2.out.size))
  have HS2 := Lib.hid (ops_two HQ2.out hb HO2.out (HZ2.out.trans (hb.mono HZ2.out.size)) (HN2.out.trans HM2.out.symm))
  clear hb HE2 HY2 HZ2 HQ2 HO2 HM2 HN2 HX2
  go_wp2_with fail
  refine HS2.out.mono ?_
  rintro e wd2 ⟨rfl, hb⟩
  have HA2 := Lib.hid (HU2.out.trans (hb.mono HU2.out.size))
  clear hb HS2 HU2
  go_wp2_with fail
  refine (HRS.out _ HA2.out).mono ?_
  rintro e wa3 ⟨V, c, z, rfl, m1, o1, hb⟩
  have HM3 := Lib.hid m1
  have HO3 := Lib.hid o1
  have HX3 := Lib.hid (HA2.out.trans (hb.mono HA2.out.size))
  clear m1 o1 hb HRS
  go_wp2_with fail
  refine (HPS.out _ HX3.out).mono ?_
  rintro e wb3 ⟨V2, c2, z2, rfl, m2, o2, hb⟩
  have HN3 := Lib.hid m2
  have HQ3 := Lib.hid o2
  have HY3 := Lib.hid (HX3.out.trans (hb.mono HX3.out.size))
  have HZ3 := Lib.hid hb
  have HE3 := Lib.hid (HERR.out wb3 (HW1.out.trans (HY3.out.mono HW1.out.size)) e3)
  clear m2 o2 hb HPS HA2
  go_wp2_with fail
  refine HE3.out.mono ?_
  rintro e wc3 ⟨rfl, hb⟩
  have HU3 := Lib.hid (HY3.out.trans (hb.mono HY3.out.size))
  have HS3 := Lib.hid (ops_two HQ3.out hb HO3.out (HZ3.out.trans (hb.mono HZ3.out.size)) (HN3.out.trans HM3.out.symm))
  clear hb HE3 HY3 HZ3 HQ3 HO3 HM3 HN3 HX3
  go_wp2_with fail
  refine HS3.out.mono ?_
  rintro e wd3 ⟨rfl, hb⟩
  have HA3 := Lib.hid (HU3.out.trans (hb.mono HU3.out.size))
  clear hb HS3 HU3
  go_wp2_with fail
  refine (HRF.out _ HA3.out).mono ?_
  rintro e wa4 ⟨V, c, z, rfl, m1, o1, hb⟩
  have HM4 := Lib.hid m1
  have HO4 := Lib.hid o1
  have HX4 := Lib.hid (HA3.out.trans (hb.mono HA3.out.size))
  clear m1 o1 hb HRF
  go_wp2_with fail
  refine (HPF.out _ HX4.out).mono ?_
  rintro e wb4 ⟨V2, c2, z2, rfl, m2, o2, hb⟩
  have HN4 := Lib.hid m2
  have HQ4 := Lib.hid o2
  have HY4 := Lib.hid (HX4.out.trans (hb.mono HX4.out.size))
  have HZ4 := Lib.hid hb
  have HE4 := Lib.hid (HERR.out wb4 (HW1.out.trans (HY4.out.mono HW1.out.size)) e4)
  clear m2 o2 hb HPF HA3
  go_wp2_with fail
  refine HE4.out.mono ?_
  rintro e wc4 ⟨rfl, hb⟩
  have HU4 := Lib.hid (HY4.out.trans (hb.mono HY4.out.size))
  have HS4 := Lib.hid (ops_two HQ4.out hb HO4.out (HZ4.out.trans (hb.mono HZ4.out.size)) (HN4.out.trans HM4.out.symm))
  clear hb HE4 HY4 HZ4 HQ4 HO4 HM4 HN4 HX4
  go_wp2_with fail
  refine HS4.out.mono ?_
  rintro e wd4 ⟨rfl, hb⟩
  have HA4 := Lib.hid (HU4.out.trans (hb.mono HU4.out.size))
  clear hb HS4 HU4
  have HTA := Lib.hid (HT.out.step HA4.out)
  clear HT
  have hBw := HTA.out.base
  have hbelow := HTA.out.below
  have hRW : Reads wd4 wd4.heap.size 6 A0 ys.length (ocells ys) := (HR0.out.below hbelow).more hbelow.size
  have HRDO := Lib.hid (rdo_any wd4 _ S2 b2 st D2 HTA.out.two OK.out SAY.out A0 c0 ys hRW (arg_apart HR0.out hBw (fun g hg => (HTA.out.two.own g hg).1))
    (fun y hy => by
      have hgy := HG.out y hy
      have hps := hgy.2.1
      exact ⟨(hgy.below hbelow).1, by unfold maxLen at hps; omega, arg_lowB hgy.1 hBw⟩) hn0)
  clear hRW hbelow
  generalize hke : st.doE (ys.map OpAt.op) = ke at *
  generalize hsf : st.doR (ys.map OpAt.op) = sf at *
  have HKE := Lib.hid hke
  have HSF := Lib.hid hsf
  clear hke hsf
  go_wp2_with fail
  refine HRDO.out.mono ?_
  rintro e wf ⟨rfl, hgo⟩
  obtain ⟨S3, D3, hT3⟩ := HTA.out.rgo hgo
  have HT3 := Lib.hid hT3
  have hbelow := hT3.below
  have hRW : Reads wf wf.heap.size 6 A0 ys.length (ocells ys) := (HR0.out.below hbelow).more hbelow.size
  have HPDO := Lib.hid (do_any wf _ S1 b1 st D1 hT3.one OK.out A0 c0 ys hRW (arg_apart HR0.out hBw (fun g hg => (hT3.one.own g hg).1))
    (fun y hy => by
      have hgy := HG.out y hy
      have hps := hgy.2.1
      exact ⟨(hgy.below hbelow).1, by unfold maxLen at hps; omega, arg_apart hgy.1 hBw (fun g hg => (hT3.one.own g hg).1)⟩) hn0)
  rw [HKE.out, HSF.out] at HPDO
  clear hgo HTA hT3 hRW hbelow HRDO
  go_wp2_with fail
  refine HPDO.out.mono ?_
  rintro e wg ⟨rfl, hgo⟩
  obtain ⟨S4, D4, hT4, _, _⟩ := HT3.out.left hgo
  have HT4 := Lib.hid hT4
  have HER := Lib.hid (HERR.out wg hT4.below ke)
  clear hgo HT3 hT4 HPDO
  go_wp2_with fail
  refine HER.out.mono ?_
  rintro e wh ⟨rfl, hb⟩
  have HT5 := Lib.hid (HT4.out.step hb)
  have OKF : Hid (sf.Ok) := by show sf.Ok; rw [← HSF.out]; exact LDoc.doR_ok _ OK.out
  clear hb HT4 HER HKE HSF OK SAY
  have HBO := Lib.hid (fun W hb => HT5.out.books OKF.out W hb)
  have HMA := Lib.hid (fun W hb => HT5.out.markss OKF.out W hb)
  have HRC := Lib.hid (fun W hb => HT5.out.rcells W hb)
  have HBF := Lib.hid (HT5.out.below)
  have HBR : Hid (Below wh.heap.size wh wh) := Below.refl _ _
  clear HT5 OKF
  obtain ⟨r0, r1, r2, r3⟩ := HRC.out wh HBR.out
  go_wp2_with fail
  go_region_held3 (fun w' => w'.cell? ⟨b2, 0, none⟩ = some (.slice D3.a1 sf.book.length D3.c1))
    (first | go_keep | assumption)
    (first
      | (go_at_call 27; refine (HBO.out _ (by first | exact HBR.out | exact below_drewN HBR.out _ | exact HBR.out.drew)).mono ?_; rintro e w6 ⟨V, c, rfl, hb6, hL⟩
         have HB6 := Lib.hid hb6
         have HL6 := Lib.hid (hL w6 (Below.refl _ _))
         clear r0 r1 r2 r3
         obtain ⟨r0, r1, r2, r3⟩ := HRC.out w6 hb6
         clear hb6 hL)
      | (go_at_call 26; refine HL6.out.mono ?_; rintro e w7 ⟨rfl, hb7⟩
         have HBa := Lib.hid hb7
         clear r0 r1 r2 r3
         obtain ⟨r0, r1, r2, r3⟩ := HRC.out w7 hb7
         clear hb7 HL6 HB6))
  all_goals
    go_wp2_with fail
    go_region_held3 (fun w' => w'.cell? ⟨b2, 1, none⟩ = some (.slice D3.a2 sf.marks.length D3.c2))
      (first | go_keep | assumption)
      (first
        | (go_at_call 29; refine (HMA.out _ (by first | exact HBa.out | exact below_drewN HBa.out _ | exact HBa.out.drew)).mono ?_; rintro e w8 ⟨V, c, rfl, hb6, hL⟩
           have HB6 := Lib.hid hb6
           have HL6 := Lib.hid (hL w8 (Below.refl _ _))
           clear r0 r1 r2 r3
           obtain ⟨r0, r1, r2, r3⟩ := HRC.out w8 hb6
           clear hb6 hL)
        | (go_at_call 28; refine HL6.out.mono ?_; rintro e w9 ⟨rfl, hb7⟩
           have HBb := Lib.hid hb7
           clear r0 r1 r2 r3
           obtain ⟨r0, r1, r2, r3⟩ := HRC.out w9 hb7
           clear hb7 HL6 HB6))
    all_goals
      go_wp2_with fail
      go_ret
      exact ⟨rfl, HBF.out.trans (HBb.out.mono HBF.out.size)⟩
end lawEditTells
end Go.Proofs.YteiadcdaleckjaaGreatDoor
/- Five and six arguments taken apart. Plain lemmas. Conditions: none. -/
namespace Go.Proofs.YteiadcdaleckjaaGreatDoor
open Go.WideShapes Go.ChangeShapes
section
variable {H : Type} {enc : TypeId × Value → H} {P : Program} {w : World} {base : Nat} {spare : Nat → Bool} {held : Bool}
theorem trodAll_five {t t' t'' t3 t4 : TypeId} {args : Array Value} {ds : List (DataW H)} {ps : List MemPlace} (h : DataW.TrodAll enc P w base spare held [t, t', t'', t3, t4] args.toList ds ps) :
    ∃ v v' v'' v3 v4 d d' d'' d3 d4 p p' p'' p3 p4, args = #[v, v', v'', v3, v4] ∧ ds = [d, d', d'', d3, d4] ∧ ps = p ++ p' ++ p'' ++ p3 ++ p4 ∧ DataW.Trod enc P w base spare held t v d p ∧ DataW.Trod enc P w base spare held t' v' d' p' ∧
      DataW.Trod enc P w base spare held t'' v'' d'' p'' ∧ DataW.Trod enc P w base spare held t3 v3 d3 p3 ∧ DataW.Trod enc P w base spare held t4 v4 d4 p4 := by
  obtain ⟨v, vs, d, ds', p, q, hargs, rfl, rfl, hd, hrest⟩ := trodAll_cons h
  obtain ⟨v', vs', d', ds'', p', q', rfl, rfl, rfl, hd', hrest'⟩ := trodAll_cons hrest
  obtain ⟨v'', vs'', d'', ds''', p'', q'', rfl, rfl, rfl, hd'', hrest''⟩ := trodAll_cons hrest'
  obtain ⟨v3, vs3, d3, ds4, p3, q3, rfl, rfl, rfl, hd3, hrest3⟩ := trodAll_cons hrest''
  obtain ⟨v4, vs4, d4, ds5, p4, q4, rfl, rfl, rfl, hd4, hrest4⟩ := trodAll_cons hrest3
  obtain ⟨rfl, rfl, rfl⟩ := trodAll_nil hrest4
  exact ⟨v, v', v'', v3, v4, d, d', d'', d3, d4, p, p', p'', p3, p4, by cases args; simp_all, rfl, by simp, hd, hd', hd'', hd3, hd4⟩
theorem trodAll_six {t t' t'' t3 t4 t5 : TypeId} {args : Array Value} {ds : List (DataW H)} {ps : List MemPlace} (h : DataW.TrodAll enc P w base spare held [t, t', t'', t3, t4, t5] args.toList ds ps) :
    ∃ v v' v'' v3 v4 v5 d d' d'' d3 d4 d5 p p' p'' p3 p4 p5, args = #[v, v', v'', v3, v4, v5] ∧ ds = [d, d', d'', d3, d4, d5] ∧ ps = p ++ p' ++ p'' ++ p3 ++ p4 ++ p5 ∧ DataW.Trod enc P w base spare held t v d p ∧ DataW.Trod enc P w base spare held t' v' d' p' ∧
      DataW.Trod enc P w base spare held t'' v'' d'' p'' ∧ DataW.Trod enc P w base spare held t3 v3 d3 p3 ∧ DataW.Trod enc P w base spare held t4 v4 d4 p4 ∧ DataW.Trod enc P w base spare held t5 v5 d5 p5 := by
  obtain ⟨v, vs, d, ds', p, q, hargs, rfl, rfl, hd, hrest⟩ := trodAll_cons h
  obtain ⟨v', vs', d', ds'', p', q', rfl, rfl, rfl, hd', hrest'⟩ := trodAll_cons hrest
  obtain ⟨v'', vs'', d'', ds''', p'', q'', rfl, rfl, rfl, hd'', hrest''⟩ := trodAll_cons hrest'
  obtain ⟨v3, vs3, d3, ds4, p3, q3, rfl, rfl, rfl, hd3, hrest3⟩ := trodAll_cons hrest''
  obtain ⟨v4, vs4, d4, ds5, p4, q4, rfl, rfl, rfl, hd4, hrest4⟩ := trodAll_cons hrest3
  obtain ⟨v5, vs5, d5, ds6, p5, q5, rfl, rfl, rfl, hd5, hrest5⟩ := trodAll_cons hrest4
  obtain ⟨rfl, rfl, rfl⟩ := trodAll_nil hrest5
  exact ⟨v, v', v'', v3, v4, v5, d, d', d'', d3, d4, d5, p, p', p'', p3, p4, p5, by cases args; simp_all, rfl, by simp, hd, hd', hd'', hd3, hd4, hd5⟩
end
end Go.Proofs.YteiadcdaleckjaaGreatDoor
/- From a walk to a tied card: what serves every law of a seat whose rows list the library's one variable. Conditions: none of our own. (After the guide's worked toy on errors.As.) -/
namespace Go.Proofs.YteiadcdaleckjaaGreatDoor
open Go.ChangeShapes Go.WideShapes Go.RowKit
set_option linter.unusedVariables false
namespace Card

/-- What the rows list. -/
def laid : List (String × DataW Unit) := [("errors.errorType", Rows.laid_errors_errorType)]
theorem et : Tryz.prog.globalNamed "errors.errorType" = some 0 := by kernel_rfl
theorem rt : (Tryz.prog.cutTypes.find? (·.1 == "internal/reflectlite.rtype")).map (·.2) = some 203 := by kernel_rfl
theorem oneRow : ((List.range Tryz.prog.types.size).filter fun t => Tryz.prog.rowNamed t [101, 114, 114, 111, 114]) = [35] := by kernel_rfl
theorem handle : typeHandle Tryz.prog 35 = .pointer (some ⟨2, 35, none⟩) := by kernel_rfl
/-- What the condition gives a walk: the variable's one cell. -/
theorem glob_of_laid {W : World} (h : laidMetH Tryz.prog laid W) : Glob W := by
  have h' : laidMet Tryz.prog [] W ∧ handlesMet Tryz.prog laid W := h
  obtain ⟨name, u, ty, e1, e2, e3, e4, e5⟩ := h'.2 _ (List.mem_singleton.2 rfl)
  have en : name = [101, 114, 114, 111, 114] := (Option.some.inj e1).symm
  subst en
  obtain rfl := Option.some.inj (rt.symm.trans e2)
  have hm : ty ∈ (List.range Tryz.prog.types.size).filter fun t => Tryz.prog.rowNamed t [101, 114, 114, 111, 114] := List.mem_filter.2 ⟨List.mem_range.2 e3, e4⟩
  rw [oneRow] at hm
  obtain rfl := List.mem_singleton.1 hm
  rw [handle] at e5
  unfold Glob
  simpa using World.var?_cell et e5 0
/-- A world that meets the condition: the settled one, the variable's cell laid. -/
noncomputable def laidWorld (os : Os) : World :=
  let w0 := World.holding Tryz.prog os ⟨#[], #[], []⟩
  { w0 with heap := w0.heap.modify 0 fun
      | .cells _ t frozen => .cells #[.iface 203 (.agg #[.pointer (some ⟨2, 35, none⟩)])] t frozen
      | o => o }
theorem laidWorld_met (os : Os) (args : Array Value) : laidMetH Tryz.prog laid ((laidWorld os).forCall (fun _ _ => 0) ⟨#[], args, []⟩).memory :=
  laidMetH_of_parts (laidMet_nil _ _) (by kernel_rfl)
end Card
end Go.Proofs.YteiadcdaleckjaaGreatDoor
/- leaflaw2.EditTells, proved: the statement. Conditions: the library's one variable holds what its text lays (the card ties it). -/
namespace Go.Proofs.YteiadcdaleckjaaGreatDoor
open Go.RowKit Go.WideShapes Go.ChangeShapes Go.ChangeAt
set_option linter.unusedVariables false
namespace lawEditTells
set_option maxRecDepth 100000 in
theorem lifted (os : Os) (started : os.Started) (H : Type) (enc : TypeId × Value → H) :
    ReturnsInHanded {} Tryz.checked os 4 .any (fun w args => (Rows.editTellsSpec.pre enc Tryz.prog Tryz.f4 [] false w args ∧ laidMetH Tryz.prog Card.laid w) ∧ sizedMet enc Tryz.prog Tryz.f4 (OpenSpec.ofChange Rows.editTellsSpec) false w args)
      (Rows.editTellsSpec.post enc Tryz.prog Tryz.f4 false true false false) := by
  refine returnsInHanded_of_change_and (C := Tryz.checked) (X := fun w _ => laidMetH Tryz.prog Card.laid w) (fun _ _ _ hh h => h.of_heap hh) Tryz.own started (by kernel_rfl) Tryz.func4
    (ChangeSpec.witness_at (enc := enc) (C := Tryz.checked) (os := os) (X := fun w _ => laidMetH Tryz.prog Card.laid w) false (Card.laidWorld os) #[.slice none 0 0, .int .i64 0, .int .i64 0, .int .i64 0, .string ⟨#[]⟩] 8 rfl (by kernel_rfl) (by kernel_rfl) (by kernel_rfl) (by kernel_rfl) (by kernel_rfl) (Card.laidWorld_met os _)) ?_
  intro W base args ds gs before hval0 hW _ hsz0 hL _
  have hval : ∀ (j : Nat) t v, Tryz.f4.params[j]? = some t → args[j]? = some v → Value.okWide Tryz.prog W .any base t v := hval0
  obtain ⟨p, q, hA0, _⟩ := id hW
  have hA : DataW.TrodAll enc Tryz.prog W 0 (fun _ => true) true Tryz.f4.params.toList args.toList ds p := hA0
  have hsz : (DataW.weightsEach Tryz.prog (Tryz.f4.params.toList ++ Rows.editTellsSpec.plain.varTypes Tryz.prog) (ds ++ gs)).all (· ≤ reachBytes) = true := hsz0
  rw [Tryz.params4] at hA hval hsz
  obtain ⟨v0, v1, v2, v3, v4, d0, d1, d2, d3, d4, p0, p1, p2, p3, p4, rfl, rfl, rfl, h0, h1, h2, h3, h4⟩ := trodAll_five hA
  obtain ⟨A0, c0, l0, rfl, r0, g0, lc0, cm0⟩ := arg_ops (hval 0 22 v0 rfl rfl) h0
  obtain ⟨a1, rfl, rfl, rfl, wa1⟩ := open_int Tryz.underlying3 (hval 1 3 v1 rfl rfl) h1
  obtain ⟨a2, rfl, rfl, rfl, wa2⟩ := open_int Tryz.underlying3 (hval 2 3 v2 rfl rfl) h2
  obtain ⟨a3, rfl, rfl, rfl, wa3⟩ := open_int Tryz.underlying3 (hval 3 3 v3 rfl rfl) h3
  obtain ⟨a4, rfl, rfl, rfl, wa4⟩ := Go.ChangeMaps.open_string Tryz.underlying9 (hval 4 9 v4 rfl rfl) h4
  refine (walk W A0 c0 l0 a1 a2 a3 a4 (Card.glob_of_laid hL) r0 g0 (by unfold maxLen at cm0; omega) (i64_of_wf wa1).1 (i64_of_wf wa1).2 (i64_of_wf wa2).1 (i64_of_wf wa2).2 (i64_of_wf wa3).1 (i64_of_wf wa3).2 (by unfold maxLen at wa4; exact wa4)).mono fun e W' ⟨he, hb⟩ => ⟨_, he, ?_⟩
  exact law_post Tryz.laidOut (tb := 4) (by kernel_rfl) Tryz.underlying4 (by rw [Tryz.params4]; simp only [List.mem_cons, List.not_mem_nil, or_false]; rintro t (rfl | rfl | rfl | rfl | rfl) <;> exact ⟨by kernel_rfl, of_decide_eq_true (by kernel_rfl)⟩) rfl rfl hW hb

theorem holds : Rows.EditTellsSaid :=
  OpenClaim.holds_of_wide 4 Tryz.f4 rfl rfl rfl rfl rfl rfl rfl ⟨rfl, rfl, rfl, rfl, rfl⟩ rfl rfl rfl rfl rfl (by kernel_rfl) Tryz.func4 (by kernel_rfl)
    (of_decide_eq_true (by kernel_rfl)) (by unfold Func.isWrapper; first | (rw [if_pos (by decide +kernel)]; kernel_rfl) | (rw [if_neg (by decide +kernel)]; exact ⟨rfl, rfl⟩))
    (fun os started H enc _ => lifted os started H enc)
theorem noStand : ∀ t ∈ Tryz.f4.params.toList, Tryz.prog.wantsStandIn t = false := by
  rw [Tryz.params4]
  simp only [List.mem_cons, List.not_mem_nil, or_false]
  rintro t (rfl | rfl | rfl | rfl | rfl) <;> kernel_rfl
theorem card_holds : Rows.EditTellsCardSaid :=
  Claim7.holds_tied_plain_at .later [] [.handle] true Rows.editTellsCard.stood.harness true
    holds (fun _ h => by cases h) (by kernel_rfl) (fun _ h => by cases h) editTells_row_tie rfl ⟨rfl, rfl⟩ (by kernel_rfl) rfl
    (fun f fn hf hfn => by
      obtain rfl : f = 4 := Option.some.inj ((show Tryz.prog.funcNamed Rows.editTellsRow.func = some 4 by kernel_rfl).symm.trans hf) |>.symm
      obtain rfl : fn = Tryz.f4 := (Option.some.inj (Tryz.func4.symm.trans hfn)).symm
      exact ⟨by kernel_rfl, fun j t ht => noStand t (by
        have := Array.mem_of_getElem? ht
        simpa using this)⟩)
    (by kernel_rfl)
#print axioms card_holds
end lawEditTells
end Go.Proofs.YteiadcdaleckjaaGreatDoor

/- 13 texts in one: each says ahead of itself what is proved, and its conditions. -/
import Derived.BigRegion
import Derived.Deep.CutBlock
import Derived.Deep.DeepAppendRoom
import Derived.Deep.RegionHeld3
import Derived.Test.YthfbjfocmnikaaaGreatDoorBookAt
import Derived.Test.YthfbjfocmnikaaaGreatDoorDocKnown
import Derived.Test.YthfbjfocmnikaaaGreatDoorEditInsert
import Derived.Test.YthfbjfocmnikaaaGreatDoorHi
import Derived.Test.YthfbjfocmnikaaaGreatDoorMarkSeen
import Derived.Test.YthfbjfocmnikaaaGreatDoorNetAt
import Derived.Test.YthfbjfocmnikaaaGreatDoorNetSame
import Derived.Test.YthfbjfocmnikaaaGreatDoorNetSpec
import Derived.Test.YthfbjfocmnikaaaGreatDoorOpEnc
import Derived.Test.YthfbjfocmnikaaaGreatDoorRefPlace
import Derived.Test.YthfbjfocmnikaaaGreatDoorSyncOpen
import Derived.Test.YthfbjfocmnikaaaGreatDoorVec
/- (*net.Net).node, Doc, Text, Under, walked. Conditions: the documents are right. -/
namespace Go.Proofs.YthfbjfocmnikaaaGreatDoor
open Go.RowKit
set_option linter.unusedVariables false
section
variable (w : World) (B : Nat) (S : List Nat) (b : Nat) (N : LNet) (ds : List NodeAt) (A1 : Option Addr) (c1 : Nat) (A2 : Option Addr) (c2 : Nat) (h : NetAt w B S b N ds A1 c1 A2 c2)
include h
set_option maxRecDepth 100000 in
theorem nnode_any (i : Int) : Calls Tryz.prog 113 #[.pointer (some ⟨b, 0, none⟩), .int .i64 i] w (fun e w' => e = .returned (.bool (N.nodeB i)) ∧ w' = w) := by
  have q0 := h.cells.1
  have HL : Hid (N.nodeB i = (decide (0 ≤ i) && decide (i < (ds.length : Int)))) := by show _ = _; rw [h.len]; rfl
  rw [HL.out]
  clear h HL
  by_cases h0 : 0 ≤ i
  · have h0' : i ≥ 0 := h0
    by_cases h1 : i < (ds.length : Int)
    · have HR : Hid ((decide (0 ≤ i) && decide (i < (ds.length : Int))) = true) := by show _ = _; simp [h0, h1]
      rw [HR.out]
      go_enter Tryz.func113, Tryz.ntmps113
      go_wp2_with fail
      go_ret
      exact ⟨rfl, rfl⟩
    · have HR : Hid ((decide (0 ≤ i) && decide (i < (ds.length : Int))) = false) := by show _ = _; simp [h1]
      rw [HR.out]
      go_enter Tryz.func113, Tryz.ntmps113
      go_wp2_with fail
      go_ret
      exact ⟨rfl, rfl⟩
  · have h0' : ¬ i ≥ 0 := h0
    have HR : Hid ((decide (0 ≤ i) && decide (i < (ds.length : Int))) = false) := by show _ = _; simp [h0]
    rw [HR.out]
    go_enter Tryz.func113, Tryz.ntmps113
    go_wp2_with fail
    go_ret
    exact ⟨rfl, rfl⟩
set_option maxRecDepth 100000 in
theorem nunder_any : Calls Tryz.prog 51 #[.pointer (some ⟨b, 0, none⟩)] w (fun e w' => e = .returned (.int .i64 (N.under.length : Nat)) ∧ w' = w) := by
  have q1 := h.cells.2
  clear h
  go_enter Tryz.func51, Tryz.ntmps51
  go_wp2_with fail
  go_ret
  exact ⟨rfl, rfl⟩
/-- A node's document, or none. -/
def NDocPost (w : World) (B : Nat) (N : LNet) (ds : List NodeAt) (i : Int) (e : Ending) (w' : World) : Prop :=
  w' = w ∧ ((N.nodeB i = true ∧ ∃ hi : i.toNat < ds.length, e = .returned (.tuple #[.pointer (some ⟨ds[i.toNat].b, 0, none⟩), .nilIface])) ∨ (N.nodeB i = false ∧ e = .returned (.tuple #[.pointer none, errV 1])))
set_option maxRecDepth 100000 in
theorem ndoc_any (i : Int) : Calls Tryz.prog 55 #[.pointer (some ⟨b, 0, none⟩), .int .i64 i] w (NDocPost w B N ds i) := by
  have HN := Lib.hid (nnode_any w B S b N ds A1 c1 A2 c2 h i)
  have HE1 := Lib.hid (errV_ne (show (1 : Int) ≠ 0 by decide))
  have HH := Lib.hid h
  have q0 := h.cells.1
  cases hb : N.nodeB i with
  | true =>
    obtain ⟨i0, i1⟩ := LNet.nodeB_iff.1 hb
    obtain ⟨k, rfl⟩ : ∃ k : Nat, i = (k : Int) := ⟨i.toNat, by omega⟩
    have hk : k < ds.length := by rw [h.len]; omega
    obtain ⟨g, rfl, hp⟩ := h.ptr hk
    have HP : Hid (NDocPost w B N ds (k : Int) (.returned (.tuple #[.pointer (some ⟨ds[k].b, 0, none⟩), .nilIface])) w) := ⟨rfl, .inl ⟨hb, by simpa using hk, rfl⟩⟩
    generalize ds[k].b = p at *
    rw [hb] at HN
    have k1 : (k : Int) < (ds.length : Int) := by omega
    have k0 : (0 : Int) ≤ (k : Int) := by omega
    clear h hb i1
    go_enter Tryz.func55, Tryz.ntmps55
    go_wp2_with fail
    refine HN.out.mono ?_
    rintro e w' ⟨rfl, hw⟩
    obtain rfl := hw.symm
    go_wp2_with fail
    go_ret2
    exact HP.out
  | false =>
    have HP : Hid (NDocPost w B N ds i (.returned (.tuple #[.pointer none, errV 1])) w) := ⟨rfl, .inr ⟨hb, rfl⟩⟩
    rw [HE1.out] at HP
    rw [hb] at HN
    clear h hb
    go_enter Tryz.func55, Tryz.ntmps55
    go_wp2_with fail
    refine HN.out.mono ?_
    rintro e w' ⟨rfl, hw⟩
    obtain rfl := hw.symm
    go_wp2_with fail
    go_ret2
    exact HP.out
set_option maxRecDepth 100000 in
theorem ntext_any (ok : N.Ok) (i : Int) : Calls Tryz.prog 54 #[.pointer (some ⟨b, 0, none⟩), .int .i64 i] w (fun e w' => e = .returned (.tuple #[.string (if N.nodeB i = true then textOf (N.doc i.toNat).book else ⟨#[]⟩), errV (if N.nodeB i = true then 0 else 1)]) ∧ Below w.heap.size w w') := by
  have HD := Lib.hid (ndoc_any w B S b N ds A1 c1 A2 c2 h i)
  have HE1 := Lib.hid (errV_ne (show (1 : Int) ≠ 0 by decide))
  have HE0 : errV 0 = .nilIface := rfl
  have HT := Lib.hid (fun (hi : i.toNat < ds.length) => text_doc w B ds[i.toNat].S ds[i.toNat].b _ ds[i.toNat].D (h.nodes _ hi) (ok.doc _))
  generalize textOf (N.doc i.toNat).book = tx at *
  unfold NDocPost at HD
  cases hb : N.nodeB i with
  | true =>
    rw [if_pos rfl, if_pos rfl, HE0]
    rw [hb] at HD
    clear h hb ok
    go_enter Tryz.func54, Tryz.ntmps54
    go_wp2_with fail
    refine HD.out.mono ?_
    rintro e w' ⟨hw, ⟨_, hi, rfl⟩ | ⟨hh, _⟩⟩
    · obtain rfl := hw.symm
      have HT2 := Lib.hid (HT.out hi)
      clear HT HD
      generalize ds[i.toNat].b = p at *
      go_wp2_with fail
      refine HT2.out.mono ?_
      rintro e w2 ⟨rfl, hb2⟩
      have HB2 := Lib.hid hb2
      clear hb2
      go_wp2_with fail
      go_ret2
      exact ⟨rfl, HB2.out⟩
    · cases hh
  | false =>
    rw [if_neg (by simp), if_neg (by simp), HE1.out]
    rw [hb] at HD
    clear h hb ok HT
    go_enter Tryz.func54, Tryz.ntmps54
    go_wp2_with fail
    refine HD.out.mono ?_
    rintro e w' ⟨hw, ⟨hh, _⟩ | ⟨_, rfl⟩⟩
    · cases hh
    · obtain rfl := hw.symm
      rw [HE1.out]
      go_wp2_with fail
      go_ret2
      exact ⟨rfl, Below.refl _ _⟩
end
end Go.Proofs.YthfbjfocmnikaaaGreatDoor
/- book.At, walked. Conditions: places that an int may count. -/
namespace Go.Proofs.YthfbjfocmnikaaaGreatDoor
open Go.RowKit
set_option linter.unusedVariables false
set_option maxRecDepth 100000 in
set_option maxHeartbeats 2000000 in
theorem at_any (w : World) (A : Option Addr) (c : Nat) (l : List LLeaf) (off : Int) (h : Reads w w.heap.size 3 A l.length (lcells l)) (hs : Sized l) (hn : l.length ≤ 9223372036854775807) (h1 : off ≤ 9223372036854775807) :
    Calls Tryz.prog 164 #[.slice A l.length c, .int .i64 off] w (AtPost w l off) := by
  have HC := Lib.hid (bookCheck_any w A c l h hs hn)
  have HR := Lib.hid h
  clear h hs hn
  by_cases he : bookErr l = 0
  · have ok := book_ok he
    have HE := Lib.hid he
    have HN := Lib.hid (fun w1 (hb : Below w.heap.size w w1) (h0 : 0 ≤ off) => nth_any w1 A c l off ((HR.out.below hb).more hb.size) (by have := ok.few; omega) h0 h1)
    clear he ok
    by_cases h0 : off < 0
    · have HF : Hid (atErr l off = 1) := by show _ = _; unfold atErr; rw [if_neg (fun h => h HE.out), if_pos (.inl h0)]
      go_enter Tryz.func164, Tryz.ntmps164
      go_wp2_with fail
      refine HC.out.mono ?_
      rintro e w1 ⟨rfl, hb1⟩
      rw [HE.out, show errV 0 = .nilIface from rfl]
      go_wp2_with fail
      go_ret2
      exact ⟨by rw [HF.out]; rfl, hb1⟩
    · go_enter Tryz.func164, Tryz.ntmps164
      go_wp2_with fail
      refine HC.out.mono ?_
      rintro e w1 ⟨rfl, hb1⟩
      rw [HE.out, show errV 0 = .nilIface from rfl]
      have HB1 := Lib.hid hb1
      clear hb1
      go_wp2_with fail
      refine (HN.out _ HB1.out (by omega)).mono ?_
      rintro e w2 ⟨rfl, hb2⟩
      have HB2 := Lib.hid (HB1.out.trans (hb2.mono HB1.out.size))
      clear hb2
      by_cases hneg : nthFrom 0 l off < 0
      · have HF : Hid (atErr l off = 1) := by show _ = _; unfold atErr; rw [if_neg (fun h => h HE.out), if_pos (.inr hneg)]
        go_wp2_with fail
        go_ret2
        exact ⟨by rw [HF.out]; rfl, HB2.out⟩
      · have HF : Hid (atErr l off = 0) := by show _ = _; unfold atErr; rw [if_neg (fun h => h HE.out), if_neg (by omega)]
        go_wp2_with fail
        go_ret2
        exact ⟨by rw [HF.out]; rfl, HB2.out⟩
  · have HV := Lib.hid (errV_ne he)
    have HF : Hid (atErr l off = bookErr l ∧ atErr l off ≠ 0) := by
      have : atErr l off = bookErr l := if_pos he
      exact ⟨this, by rw [this]; exact he⟩
    clear he
    go_enter Tryz.func164, Tryz.ntmps164
    go_wp2_with fail
    refine HC.out.mono ?_
    rintro e w1 ⟨rfl, hb1⟩
    rw [HV.out]
    go_wp2_with fail
    go_ret2
    exact ⟨by rw [if_neg HF.out.2, HF.out.1, HV.out]; rfl, hb1⟩
end Go.Proofs.YthfbjfocmnikaaaGreatDoor
/- edit.at, Split, Fuse, Delete, walked. Conditions: the document is right; the numbers are of 64 bits. -/
namespace Go.Proofs.YthfbjfocmnikaaaGreatDoor
open Go.RowKit
set_option linter.unusedVariables false
theorem nth_lt : ∀ (l : List LLeaf) (k : Nat) (off : Int), 0 ≤ nthFrom k l off → ∃ n, ∃ hn : n < l.length, nthFrom k l off = ((k + n : Nat) : Int)
  | [], k, off => fun h => by simp [nthFrom] at h
  | x :: l, k, off => fun h => by
    have step : ∀ o : Int, 0 ≤ nthFrom (k + 1) l o → ∃ n, ∃ hn : n < (x :: l).length, nthFrom (k + 1) l o = ((k + n : Nat) : Int) := fun o ho => by
      obtain ⟨n, hn, e⟩ := nth_lt l _ _ ho
      exact ⟨n + 1, by simp; omega, by rw [e]; omega⟩
    unfold nthFrom at h ⊢
    by_cases h1 : seenB x = true
    · rw [if_pos h1] at h ⊢
      by_cases h2 : off = 0
      · rw [if_pos h2]; exact ⟨0, by simp, by simp⟩
      · rw [if_neg h2] at h ⊢; exact step _ h
    · rw [if_neg h1] at h ⊢; exact step _ h
section
variable (w : World) (B : Nat) (S : List Nat) (b : Nat) (st : LDoc) (D : DLay) (h : DocIs w B S b st D) (ok : st.Ok)
include h ok
set_option maxRecDepth 100000 in
set_option maxHeartbeats 4000000 in
theorem at_doc (off : Int) (ho : off ≤ 9223372036854775807) :
    Calls Tryz.prog 204 #[.pointer (some ⟨b, 0, none⟩), .int .i64 off] w (fun e w' => e = .returned (.tuple #[.string (if atErr st.book off = 0 then st.spot off else ⟨#[]⟩), errV (atErr st.book off)]) ∧ Below w.heap.size w w') := by
  have HC := Lib.hid (book_doc w _ _ _ _ _ h ok)
  have OK := Lib.hid ok
  have hfew := ok.book.few
  have HE0 : errV 0 = .nilIface := rfl
  have HSP : Hid (st.spot off = (st.book.getD ((nthFrom 0 st.book off).toNat) default).place) := rfl
  have HAT : Hid (atErr st.book off = 0 → 0 ≤ nthFrom 0 st.book off) := fun h => by
    unfold atErr at h
    split at h
    · rename_i h1; exact absurd h h1
    · split at h
      · omega
      · omega
  clear h ok
  by_cases he : atErr st.book off = 0
  · rw [he, if_pos rfl, HE0]
    go_enter Tryz.func204, Tryz.ntmps204
    go_wp2_with fail
    refine HC.out.mono ?_
    rintro e w1 ⟨V, c, rfl, hO, hb⟩
    have HA := Lib.hid (at_any w1 V c st.book off hO.reads (sized_ok OK.out.book) (by omega) ho)
    have HR := Lib.hid hO.reads
    have HB1 := Lib.hid hb
    unfold AtPost at HA
    clear hO hb HC
    obtain ⟨n, hn, en⟩ := nth_lt _ _ _ (HAT.out he)
    rw [Nat.zero_add] at en
    obtain ⟨ad, rfl, _⟩ := HR.out.leaf hn
    have HCL : Hid (∀ W, Below w1.heap.size w1 W → W.cell? (ad.add (n * 3)) = some (.string st.book[n].place)) := fun W hb => by
      obtain ⟨ad', e, _, c0, _⟩ := (HR.out.below hb).leaf hn
      injection e with e
      subst e
      exact c0
    have HS : Hid (st.spot off = st.book[n].place) := by show _ = _; rw [HSP.out, en]; simp [List.getD, hn]
    rw [he, if_pos rfl, HE0, en] at HA
    have n0 : (0 : Int) ≤ (n : Int) := by omega
    have n1 : (n : Int) < (st.book.length : Int) := by omega
    clear he en HSP HAT HR
    generalize st.book[n].place = p at *
    go_wp2_with fail
    refine HA.out.mono ?_
    rintro e w2 ⟨rfl, hb⟩
    have c0 := HCL.out _ hb
    have HB2 := Lib.hid (HB1.out.trans (hb.mono HB1.out.size))
    clear hb
    go_wp2_with fail
    go_ret2
    exact ⟨by rw [HS.out]; rfl, HB2.out⟩
  · rw [if_neg he]
    have HE := Lib.hid he
    have HV := Lib.hid (errV_ne he)
    clear he HSP HAT
    go_enter Tryz.func204, Tryz.ntmps204
    go_wp2_with fail
    refine HC.out.mono ?_
    rintro e w1 ⟨V, c, rfl, hO, hb⟩
    have HA := Lib.hid (at_any w1 V c st.book off hO.reads (sized_ok OK.out.book) (by omega) ho)
    have HB1 := Lib.hid hb
    unfold AtPost at HA
    rw [if_neg HE.out] at HA
    clear hO hb HC HE
    go_wp2_with fail
    refine HA.out.mono ?_
    rintro e w2 ⟨rfl, hb⟩
    rw [HV.out]
    have HB2 := Lib.hid (HB1.out.trans (hb.mono HB1.out.size))
    clear hb
    go_wp2_with fail
    go_ret2
    exact ⟨by rw [HV.out]; rfl, HB2.out⟩
set_option maxRecDepth 100000 in
set_option maxHeartbeats 4000000 in
theorem split_any (who off : Int) (hw0 : -9223372036854775808 ≤ who) (hw1 : who ≤ 9223372036854775807) (ho : off ≤ 9223372036854775807) :
    Calls Tryz.prog 166 #[.pointer (some ⟨b, 0, none⟩), .int .i64 who, .int .i64 off] w (EditPost w (st.splE who off) (st.splR who off)) := by
  have HN := Lib.hid (newMk_any w B S b st D h ok who hw0 hw1)
  have HD := Lib.hid h
  have OK := Lib.hid ok
  have HE0 : errV 0 = .nilIface := rfl
  have HE1 := errV_ne (show (1 : Int) ≠ 0 by decide)
  clear h ok
  by_cases hw : LDoc.whoE who = 0
  · have HN : Hid (Calls Tryz.prog 89 #[.pointer (some ⟨b, 0, none⟩), .int .i64 who] w fun e w' => ∃ b, e = .returned (.tuple #[.pointer (some ⟨b, 0, none⟩), .nilIface]) ∧ MkIs w' w.heap.size b (st.maker who) none 0 [] ∧ Below w.heap.size w w') :=
      HN.out.mono fun e w' hh => by
        rcases hh with ⟨_, h1⟩ | ⟨h1, _⟩
        · exact h1
        · exact absurd hw h1
    have HSE : Hid (st.splE who off = atErr st.book off) := by show _ = _; unfold LDoc.splE; rw [if_neg (by omega)]
    have HSR : Hid (st.splR who off = if atErr st.book off = 0 then ((st.maker who).add ⟨⟨0, 0⟩, 3, st.spot off, 0, []⟩).ops else []) := by show _ = _; unfold LDoc.splR; rw [HSE.out]
    have hmn : 0 ≤ (st.maker who).n ∧ (st.maker who).n ≤ 9999 := by
      obtain ⟨k, hk, _, e, h1, h2⟩ := nOf_known OK.out.known hw
      exact ⟨by rw [e] at h1; exact h1, by rw [e] at h2; exact h2⟩
    rw [HSE.out, HSR.out]
    clear hw HSE HSR
    generalize st.maker who = m at *
    by_cases he : atErr st.book off = 0
    · rw [he, if_pos rfl]
      go_enter Tryz.func166, Tryz.ntmps166
      go_wp2_with fail
      refine HN.out.mono ?_
      rintro e w1 ⟨bm, rfl, hm, hb⟩
      have HM1 := Lib.hid hm
      have HB1 := Lib.hid hb
      have HA := Lib.hid (at_doc w1 B S b st D (HD.out.below hb) OK.out off ho)
      clear hm hb HN
      rw [he, if_pos rfl, HE0] at HA
      clear he
      generalize st.spot off = p at *
      go_wp2_with fail
      refine HA.out.mono ?_
      rintro e w2 ⟨rfl, hb⟩
      have HB2 := Lib.hid (HB1.out.trans (hb.mono HB1.out.size))
      have HM2 := Lib.hid (HM1.out.below hb)
      have hs2 : w.heap.size ≤ w2.heap.size := HB2.out.size
      have HAD : Hid (Calls _ _ _ _ _) := mkAdd_any w2 w.heap.size bm m none 0 [] HM2.out hs2 ⟨⟨0, 0⟩, 3, p, 0, []⟩ none 0 (Own.nil _ _ _ _) (by omega) (by omega) (by simp)
      unfold LOp.val at HAD
      simp only [List.length_nil] at HAD
      clear hb HM1 HA
      go_wp2_with fail
      refine HAD.out.mono ?_
      rintro e w3 ⟨rfl, ht⟩
      have HB3 := Lib.hid (HB2.out.trans (MkTo.below HM2.out ht (Nat.le_refl _) hs2))
      obtain ⟨V', c', ys', hm3, _, _⟩ := ht
      have HM3 := Lib.hid hm3
      have c2 : w3.cell? ⟨bm, 2, none⟩ = some (.slice V' ys'.length c') := by rw [hm3.blk.cell]; rfl
      clear hm3 HAD
      go_wp2_with fail
      go_ret2
      exact ⟨V', c', ys', rfl, HM3.out.same, HM3.out.ops, HB3.out⟩
    · rw [if_neg he]
      have HV := Lib.hid (errV_ne he)
      go_enter Tryz.func166, Tryz.ntmps166
      go_wp2_with fail
      refine HN.out.mono ?_
      rintro e w1 ⟨bm, rfl, hm, hb⟩
      have HM1 := Lib.hid hm
      have HB1 := Lib.hid hb
      have HA := Lib.hid (at_doc w1 B S b st D (HD.out.below hb) OK.out off ho)
      clear hm hb HN
      rw [if_neg he] at HA
      clear he
      go_wp2_with fail
      refine HA.out.mono ?_
      rintro e w2 ⟨rfl, hb⟩
      rw [HV.out]
      have HB2 := Lib.hid (HB1.out.trans (hb.mono HB1.out.size))
      clear hb
      go_wp2_with fail
      go_ret2
      have := edit_bad (k := atErr st.book off) HB2.out
      rw [HV.out] at this
      exact this
  · have HN : Hid (Calls Tryz.prog 89 #[.pointer (some ⟨b, 0, none⟩), .int .i64 who] w fun e w' => e = .returned (.tuple #[.pointer none, errV 1]) ∧ Below w.heap.size w w') :=
      HN.out.mono fun e w' hh => by
        rcases hh with ⟨h1, _⟩ | ⟨_, h1⟩
        · exact absurd h1 hw
        · exact h1
    have HSE : Hid (st.splE who off = 1) := if_pos hw
    have HSR : Hid (st.splR who off = []) := by show _ = _; unfold LDoc.splR; rw [HSE.out, if_neg (by decide)]
    rw [HSE.out, HSR.out]
    rw [HE1] at HN
    clear hw HSE HSR
    go_enter Tryz.func166, Tryz.ntmps166
    go_wp2_with fail
    refine HN.out.mono ?_
    rintro e w1 ⟨rfl, hb⟩
    have HB1 := Lib.hid hb
    clear hb
    go_wp2_with fail
    go_ret2
    have := edit_bad (k := 1) HB1.out
    rw [HE1] at this
    exact this
end
end Go.Proofs.YthfbjfocmnikaaaGreatDoor
/- edit.Fuse, Delete, walked. Conditions: the document is right; the numbers are of 64 bits. -/
namespace Go.Proofs.YthfbjfocmnikaaaGreatDoor
open Go.RowKit
set_option linter.unusedVariables false
theorem newMk_good {w : World} {B b : Nat} {S : List Nat} {st : LDoc} {D : DLay} (h : DocIs w B S b st D) (ok : st.Ok) {who : Int} (hw : LDoc.whoE who = 0) (hw0 : -9223372036854775808 ≤ who) (hw1 : who ≤ 9223372036854775807) :
    (0 ≤ (st.maker who).n ∧ (st.maker who).n ≤ 9999) ∧ Calls Tryz.prog 89 #[.pointer (some ⟨b, 0, none⟩), .int .i64 who] w fun e w' => ∃ b, e = .returned (.tuple #[.pointer (some ⟨b, 0, none⟩), .nilIface]) ∧ MkIs w' w.heap.size b (st.maker who) none 0 [] ∧ Below w.heap.size w w' := by
  refine ⟨?_, (newMk_any w B S b st D h ok who hw0 hw1).mono fun e w' hh => ?_⟩
  · obtain ⟨k, hk, _, e, h1, h2⟩ := nOf_known ok.known hw
    exact ⟨by rw [e] at h1; exact h1, by rw [e] at h2; exact h2⟩
  · rcases hh with ⟨_, h1⟩ | ⟨h1, _⟩
    · exact h1
    · exact absurd hw h1
theorem newMk_bad {w : World} {B b : Nat} {S : List Nat} {st : LDoc} {D : DLay} (h : DocIs w B S b st D) (ok : st.Ok) {who : Int} (hw : ¬ LDoc.whoE who = 0) (hw0 : -9223372036854775808 ≤ who) (hw1 : who ≤ 9223372036854775807) :
    Calls Tryz.prog 89 #[.pointer (some ⟨b, 0, none⟩), .int .i64 who] w fun e w' => e = .returned (.tuple #[.pointer none, errV 1]) ∧ Below w.heap.size w w' :=
  (newMk_any w B S b st D h ok who hw0 hw1).mono fun e w' hh => by
    rcases hh with ⟨h1, _⟩ | ⟨_, h1⟩
    · exact absurd h1 hw
    · exact h1
theorem MkTo.edit {w0 w w' : World} {b : Nat} {m m' : LMk} {V : Option Addr} {c : Nat} {ys : List OpAt} (hb : Below w0.heap.size w0 w) (h : MkIs w w0.heap.size b m V c ys) (ht : MkTo w w0.heap.size b V m' w') :
    ∃ V' c' ys', w'.cell? ⟨b, 2, none⟩ = some (.slice V' ys'.length c') ∧ ys'.map OpAt.op = m'.ops ∧ OwnOps w' w0.heap.size V' c' ys' ∧ Below w0.heap.size w0 w' := by
  have hB := hb.trans (MkTo.below h ht (Nat.le_refl _) hb.size)
  obtain ⟨V', c', ys', hm, _, _⟩ := ht
  exact ⟨V', c', ys', by rw [hm.blk.cell]; rfl, hm.same, hm.ops, hB⟩
section
variable (w : World) (B : Nat) (S : List Nat) (b : Nat) (st : LDoc) (D : DLay) (h : DocIs w B S b st D) (ok : st.Ok)
include h ok
set_option maxRecDepth 100000 in
set_option maxHeartbeats 4000000 in
theorem fuse_any (who off : Int) (hw0 : -9223372036854775808 ≤ who) (hw1 : who ≤ 9223372036854775807) (ho : off ≤ 9223372036854775807) :
    Calls Tryz.prog 167 #[.pointer (some ⟨b, 0, none⟩), .int .i64 who, .int .i64 off] w (EditPost w (st.fusE who off) (st.fusR who off)) := by
  have HD := Lib.hid h
  have OK := Lib.hid ok
  have HE0 : errV 0 = .nilIface := rfl
  have HE1 := errV_ne (show (1 : Int) ≠ 0 by decide)
  have HE5 := errV_ne (show (5 : Int) ≠ 0 by decide)
  clear h ok
  by_cases hw : LDoc.whoE who = 0
  · obtain ⟨hmn, hn⟩ := newMk_good HD.out OK.out hw hw0 hw1
    have HN := Lib.hid hn
    have hfewm := OK.out.marks.few
    by_cases he : atErr st.book off = 0
    · by_cases hs : seenAt st.marks (st.spot off) = []
      · have e1 : st.fusE who off = 5 := by unfold LDoc.fusE; rw [if_neg (by omega), if_neg (by omega), if_pos hs]
        have e2 : st.fusR who off = [] := by unfold LDoc.fusR; rw [e1, if_neg (by decide)]
        rw [e1, e2]
        clear hw hn e1 e2 hmn
        go_enter Tryz.func167, Tryz.ntmps167
        go_wp2_with fail
        refine HN.out.mono ?_
        rintro e w1 ⟨bm, rfl, hm, hb⟩
        have HB1 := Lib.hid hb
        have HD1 := Lib.hid (HD.out.below hb)
        have HA := Lib.hid (at_doc w1 B S b st D HD1.out OK.out off ho)
        rw [he, if_pos rfl, HE0] at HA
        clear hm hb HN
        go_wp2_with fail
        refine HA.out.mono ?_
        rintro e w2 ⟨rfl, hb⟩
        have HB2 := Lib.hid (HB1.out.trans (hb.mono HB1.out.size))
        have HM := Lib.hid (marks_doc w2 B S b st D (HD1.out.below hb) OK.out)
        clear hb HA
        go_wp2_with fail
        refine HM.out.mono ?_
        rintro e w3 ⟨V, c, rfl, hO, hb⟩
        have HB3 := Lib.hid (HB2.out.trans (hb.mono HB2.out.size))
        have HSA := Lib.hid (seenAt_any w3 V c st.marks (st.spot off) hO.reads (by omega))
        unfold DotsPost at HSA
        rw [hs] at HSA
        clear hb hO HM
        go_wp2_with fail
        refine HSA.out.mono ?_
        rintro e w4 ⟨V2, c2, rfl, hO, hb⟩
        have HB4 := Lib.hid (HB3.out.trans (hb.mono HB3.out.size))
        clear hb hO HSA
        go_wp2_with fail
        go_ret2
        have := edit_bad (k := 5) HB4.out
        rw [HE5] at this
        exact this
      · have e1 : st.fusE who off = 0 := by unfold LDoc.fusE; rw [if_neg (by omega), if_neg (by omega), if_neg hs]
        have e2 : st.fusR who off = ((st.maker who).add ⟨⟨0, 0⟩, 4, st.spot off, 0, seenAt st.marks (st.spot off)⟩).ops := by unfold LDoc.fusR; rw [if_pos e1]
        rw [e1, e2]
        have hpos : 0 < (seenAt st.marks (st.spot off)).length := List.length_pos_iff.2 hs
        have hz : (((seenAt st.marks (st.spot off)).length : Int) == 0) = false := by rw [beq_eq_false_iff_ne]; omega
        clear hw hn e1 e2 hs hpos
        go_enter Tryz.func167, Tryz.ntmps167
        go_wp2_with fail
        refine HN.out.mono ?_
        rintro e w1 ⟨bm, rfl, hm, hb⟩
        have HB1 := Lib.hid hb
        have HM1 := Lib.hid hm
        have HD1 := Lib.hid (HD.out.below hb)
        have HA := Lib.hid (at_doc w1 B S b st D HD1.out OK.out off ho)
        rw [he, if_pos rfl, HE0] at HA
        clear hm hb HN
        go_wp2_with fail
        refine HA.out.mono ?_
        rintro e w2 ⟨rfl, hb⟩
        have HB2 := Lib.hid (HB1.out.trans (hb.mono HB1.out.size))
        have HM2 := Lib.hid (HM1.out.below hb)
        have HM := Lib.hid (marks_doc w2 B S b st D (HD1.out.below hb) OK.out)
        clear hb HA HM1
        go_wp2_with fail
        refine HM.out.mono ?_
        rintro e w3 ⟨V, c, rfl, hO, hb⟩
        have HB3 := Lib.hid (HB2.out.trans (hb.mono HB2.out.size))
        have HM3 := Lib.hid (HM2.out.below hb)
        have HSA := Lib.hid (seenAt_any w3 V c st.marks (st.spot off) hO.reads (by omega))
        unfold DotsPost at HSA
        clear hb hO HM HM2
        generalize seenAt st.marks (st.spot off) = seen at *
        generalize st.spot off = p at *
        go_wp2_with fail
        refine HSA.out.mono ?_
        rintro e w4 ⟨V2, c2, rfl, hO, hb⟩
        have HB4 := Lib.hid (HB3.out.trans (hb.mono HB3.out.size))
        have HM4 := Lib.hid (HM3.out.below hb)
        have hs4 : w.heap.size ≤ w4.heap.size := HB4.out.size
        have HAD : Hid (Calls _ _ _ _ _) := mkAdd_any w4 w.heap.size bm (st.maker who) none 0 [] HM4.out hs4 ⟨⟨0, 0⟩, 4, p, 0, seen⟩ V2 c2 (hO.mono HB3.out.size) (by omega) (by omega) (by simp)
        unfold LOp.val at HAD
        clear hb hO HSA HM3
        go_wp2_with fail
        refine HAD.out.mono ?_
        rintro e w5 ⟨rfl, ht⟩
        obtain ⟨V', c', ys', q1, q2, q3, q4⟩ := MkTo.edit HB4.out HM4.out ht
        have Q2 := Lib.hid q2
        have Q3 := Lib.hid q3
        have Q4 := Lib.hid q4
        clear ht HAD q2 q3 q4
        go_wp2_with fail
        go_ret2
        exact ⟨V', c', ys', rfl, Q2.out, Q3.out, Q4.out⟩
    · have e1 : st.fusE who off = atErr st.book off := by unfold LDoc.fusE; rw [if_neg (by omega), if_pos he]
      have e2 : st.fusR who off = [] := by unfold LDoc.fusR; rw [e1, if_neg he]
      rw [e1, e2]
      have HV := Lib.hid (errV_ne he)
      clear hw hn e1 e2
      go_enter Tryz.func167, Tryz.ntmps167
      go_wp2_with fail
      refine HN.out.mono ?_
      rintro e w1 ⟨bm, rfl, hm, hb⟩
      have HB1 := Lib.hid hb
      have HA := Lib.hid (at_doc w1 B S b st D (HD.out.below hb) OK.out off ho)
      rw [if_neg he] at HA
      clear hm hb HN he
      go_wp2_with fail
      refine HA.out.mono ?_
      rintro e w2 ⟨rfl, hb⟩
      rw [HV.out]
      have HB2 := Lib.hid (HB1.out.trans (hb.mono HB1.out.size))
      clear hb
      go_wp2_with fail
      go_ret2
      have := edit_bad (k := atErr st.book off) HB2.out
      rw [HV.out] at this
      exact this
  · have HN := Lib.hid (newMk_bad HD.out OK.out hw hw0 hw1)
    have e1 : st.fusE who off = 1 := if_pos hw
    have e2 : st.fusR who off = [] := by unfold LDoc.fusR; rw [e1, if_neg (by decide)]
    rw [e1, e2]
    rw [HE1] at HN
    clear hw e1 e2
    go_enter Tryz.func167, Tryz.ntmps167
    go_wp2_with fail
    refine HN.out.mono ?_
    rintro e w1 ⟨rfl, hb⟩
    have HB1 := Lib.hid hb
    clear hb
    go_wp2_with fail
    go_ret2
    have := edit_bad (k := 1) HB1.out
    rw [HE1] at this
    exact this
end
/-- Midway: k leafs are looked at. -/
structure DelMid (w : World) (B b : Nat) (V : Option Addr) (m : LMk) (x y : Int) (l : List LLeaf) (k : Nat) (wr : World) (a : Int) (mk : LMk) (V' : Option Addr) (c' : Nat) (ys' : List OpAt) : Prop where
  mkis : MkIs wr B b mk V' c' ys'
  only : Only (b :: ob V) w wr
  new : ∀ g ∈ ob V', g ∈ ob V ∨ w.heap.size ≤ g
  rest : LMk.strikes x y l 0 m = LMk.strikes x y (l.drop k) a mk
  at_ : 0 ≤ a ∧ a ≤ k
  n : m.n ≤ mk.n ∧ mk.n ≤ m.n + k
  len : ys'.length ≤ m.ops.length + k
def DelLoop (w : World) (B b : Nat) (V : Option Addr) (m : LMk) (x y : Int) (l : List LLeaf) (a i : Value) (wr : World) : Prop :=
  ∃ k : Nat, ∃ (n : Int), ∃ mk V' c' ys', k ≤ l.length ∧ a = .int .i64 n ∧ i = .int .i64 k ∧ Hid (DelMid w B b V m x y l k wr n mk V' c' ys')
namespace DelMid
variable {w wr w' : World} {B b : Nat} {V V' : Option Addr} {m mk : LMk} {x y a : Int} {l : List LLeaf} {k c' : Nat} {ys' : List OpAt}
theorem fin (h : DelMid w B b V m x y l k wr a mk V' c' ys') (hk : l.length ≤ k) : MkTo w B b V (LMk.strikes x y l 0 m) wr := by
  rw [h.rest, List.drop_eq_nil_of_le hk, LMk.strikes]
  exact ⟨V', c', ys', h.mkis, h.only, h.new⟩
theorem skip (h : DelMid w B b V m x y l k wr a mk V' c' ys') (hk : k < l.length) (hs : seenB l[k] = false) (hb : Below wr.heap.size wr w') : DelMid w B b V m x y l (k + 1) w' a mk V' c' ys' := by
  refine ⟨h.mkis.below hb, h.only.below_step hb, h.new, ?_, by have := h.at_; omega, by have := h.n; omega, by have := h.len; omega⟩
  rw [h.rest, List.drop_eq_getElem_cons hk, LMk.strikes, if_neg (by rw [hs]; decide)]
theorem pass (h : DelMid w B b V m x y l k wr a mk V' c' ys') (hk : k < l.length) (hs : seenB l[k] = true) (hn : ¬ (x ≤ a ∧ a < y)) (hb : Below wr.heap.size wr w') : DelMid w B b V m x y l (k + 1) w' (a + 1) mk V' c' ys' := by
  refine ⟨h.mkis.below hb, h.only.below_step hb, h.new, ?_, by have := h.at_; omega, by have := h.n; omega, by have := h.len; omega⟩
  rw [h.rest, List.drop_eq_getElem_cons hk, LMk.strikes, if_pos hs, if_neg hn]
theorem next (h : DelMid w B b V m x y l k wr a mk V' c' ys') (hk : k < l.length) (hs : seenB l[k] = true) (hn : x ≤ a ∧ a < y) {w1 : World} (hb : Below wr.heap.size wr w1) (ht : MkTo w1 B b V' (mk.st l[k].place) w') :
    ∃ V2 c2 ys2, DelMid w B b V m x y l (k + 1) w' (a + 1) (mk.st l[k].place) V2 c2 ys2 := by
  obtain ⟨V2, c2, ys2, i2, o2, n2⟩ := MkTo.trans (h.mkis.below hb) (h.only.below_step hb) h.new ht
  refine ⟨V2, c2, ys2, i2, o2, n2, ?_, by have := h.at_; omega, ?_, ?_⟩
  · rw [h.rest, List.drop_eq_getElem_cons hk, LMk.strikes, if_pos hs, if_pos hn]
  · have := h.n
    show m.n ≤ mk.n + 1 ∧ mk.n + 1 ≤ _
    omega
  · have e1 := i2.len
    have e2 := h.mkis.len
    have := h.len
    rw [e1]
    simp [LMk.st, LMk.add]
    omega
end DelMid
set_option maxRecDepth 100000 in
set_option maxHeartbeats 8000000 in
theorem mkDel_any (w : World) (B b : Nat) (m : LMk) (V : Option Addr) (c : Nat) (ys : List OpAt) (h : MkIs w B b m V c ys) (hB : B ≤ w.heap.size) (A : Option Addr) (cl : Nat) (l : List LLeaf) (hr : Reads w w.heap.size 3 A l.length (lcells l)) (hb : BookOk l) (hap : ∀ g ∈ ob A, g ≠ b ∧ g ∉ ob V)
    (x y : Int) (hx0 : -9223372036854775808 ≤ x) (hx1 : x ≤ 9223372036854775807) (hy0 : -9223372036854775808 ≤ y) (hy1 : y ≤ 9223372036854775807) (hn0 : 0 ≤ m.n) (hn : m.n ≤ 900000) (hl : m.ops.length ≤ 90000) :
    Calls Tryz.prog 93 #[.pointer (some ⟨b, 0, none⟩), .slice A l.length cl, .int .i64 x, .int .i64 y] w (MkPost w B b V (m.del l x y)) := by
  have HR := Lib.hid hr
  have HM := Lib.hid h
  have HB := Lib.hid hb
  have HAP := Lib.hid hap
  have hfew := hb.few
  have HE0 : errV 0 = .nilIface := rfl
  have HE1 := errV_ne (show (1 : Int) ≠ 0 by decide)
  have HTX := Lib.hid (textOf_any w A cl l hr (fit_ok hb) (by omega))
  have HDEL : Hid (m.del l x y = if x < 0 ∨ y < x ∨ ((textOf l).size : Int) < y then (m, 1) else (LMk.strikes x y l 0 m, 0)) := rfl
  have hts : (textOf l).size ≤ 300 := by have := textL_le l; rw [show (textOf l).size = (textL l).length from strOf_size _]; omega
  clear h hr hb hap
  generalize textOf l = tx at *
  by_cases c1 : x < 0
  · have HF : Hid (m.del l x y = (m, 1)) := by show _ = _; rw [HDEL.out, if_pos (.inl c1)]
    go_enter Tryz.func93, Tryz.ntmps93
    go_wp2_with fail
    go_ret
    rw [HF.out]
    exact ⟨by rw [HE1]; rfl, HM.out.to_self⟩
  · by_cases c2 : y < x
    · have HF : Hid (m.del l x y = (m, 1)) := by show _ = _; rw [HDEL.out, if_pos (.inr (.inl c2))]
      go_enter Tryz.func93, Tryz.ntmps93
      go_wp2_with fail
      go_ret
      rw [HF.out]
      exact ⟨by rw [HE1]; rfl, HM.out.to_self⟩
    · by_cases c3 : (tx.size : Int) < y
      · have HF : Hid (m.del l x y = (m, 1)) := by show _ = _; rw [HDEL.out, if_pos (.inr (.inr c3))]
        have g3 : decide (y > (tx.size : Int)) = true := decide_eq_true c3
        go_enter Tryz.func93, Tryz.ntmps93
        go_wp2_with fail
        refine HTX.out.mono ?_
        rintro e w1 ⟨rfl, hb⟩
        have HM1 := Lib.hid (HM.out.below hb)
        have HO1 := Lib.hid (Only.of_below (S := b :: ob V) hb)
        clear hb
        go_wp2_with fail
        go_ret
        rw [HF.out]
        exact ⟨by rw [HE1]; rfl, V, c, ys, HM1.out, HO1.out, fun g hg => .inl hg⟩
      · have HF : Hid (m.del l x y = (LMk.strikes x y l 0 m, 0)) := by show _ = _; rw [HDEL.out, if_neg (by omega)]
        have g3 : ¬ (tx.size : Int) < y := c3
        have hml := HM.out.len
        go_enter Tryz.func93, Tryz.ntmps93
        go_wp2_with fail
        refine HTX.out.mono ?_
        rintro e w1 ⟨rfl, hb⟩
        have HM0 : Hid (DelMid w B b V m x y l 0 w1 0 m V c ys) := ⟨HM.out.below hb, Only.of_below hb, fun g hg => .inl hg, rfl, by omega, by omega, by omega⟩
        clear hb
        go_wp2_with fail
        go_loopw [9, 29] (fun a i wr => DelLoop w B b V m x y l a i wr) (fun _ i _ => l.length - (intOf i).toNat)
        case atStart => exact ⟨0, 0, m, V, c, ys, Nat.zero_le _, rfl, rfl, HM0.out⟩
        case round =>
          obtain ⟨k, n, mk, V', c', ys', hk, rfl, rfl, HK⟩ := hrel
          have k0 : (0 : Int) ≤ (k : Int) := by omega
          have hkat := HK.out.at_
          have hkn := HK.out.n
          have hkl := HK.out.len
          by_cases hlt : k < l.length
          · have k1 : (k : Int) < (l.length : Int) := by omega
            have hrr : Reads wr wr.heap.size 3 A l.length (lcells l) := Reads.only HR.out HK.out.only (fun _ g hg hm => by
              have := HAP.out g hg
              rcases List.mem_cons.1 hm with h | h
              · exact this.1 h
              · exact this.2 h)
            obtain ⟨ad, rfl, _, d0, d1, d2⟩ := hrr.leaf hlt
            have HSN := Lib.hid (fun W => seen_any W l[k])
            have HSK := Lib.hid (fun hs w' hb => HK.out.skip (w' := w') hlt hs hb)
            have HPS := Lib.hid (fun hs hn w' hb => HK.out.pass (w' := w') hlt hs hn hb)
            have HNX := Lib.hid (fun hs hn w1 w' hb ht => HK.out.next (w1 := w1) (w' := w') hlt hs hn hb ht)
            have HAD := Lib.hid (fun W (hW : Below wr.heap.size wr W) o hs => mkAdd_any W B b mk V' c' ys' (HK.out.mkis.below hW) (by have := HK.out.only.size; have := hW.size; omega) o none 0 hs (by omega) (by omega) (by omega))
            clear hrr
            generalize l[k] = z at *
            obtain ⟨p, ch, sk⟩ := z
            obtain ⟨WX, hWX⟩ : ∃ WX, WX = wr.alloc (.cells #[.string p, .int .i64 ch, .bool sk] 115) := ⟨_, rfl⟩
            have hbX : Below wr.heap.size wr WX := by rw [hWX]; exact (Below.refl _ _).alloc (Nat.le_refl _) _
            have hbk : Blk WX wr.heap.size 115 #[.string p, .int .i64 ch, .bool sk] := by rw [hWX]; exact Blk.new wr _ _
            have HBX := Lib.hid hbX
            have HBK := Lib.hid hbk
            have e0 : WX.cell? ⟨wr.heap.size, 0, none⟩ = some (.string p) := hbk.cell 0
            have e1 : WX.cell? ⟨wr.heap.size, 1, none⟩ = some (.int .i64 ch) := hbk.cell 1
            have e2 : WX.cell? ⟨wr.heap.size, 2, none⟩ = some (.bool sk) := hbk.cell 2
            have HS1 := Lib.hid (HSN.out WX)
            have q1 : IntKind.i64.wrap (n + 1) = n + 1 := IntWalk.i64_in _ (by omega)
            clear hbX hbk HSN
            simp only at d0 d1 d2
            cases hsn : seenB ⟨p, ch, sk⟩ with
            | false =>
              rw [hsn] at HS1
              have HSK := Lib.hid (HSK.out hsn)
              clear hsn HPS HNX HAD
              go_wp2_with fail
              rw [← hWX]
              clear hWX
              refine HS1.out.mono ?_
              rintro e w2 ⟨rfl, hb2⟩
              have HN := Lib.hid (HSK.out w2 (HBX.out.trans (hb2.mono HBX.out.size)))
              clear hb2
              go_wp2_with fail
              go_roundw
              case rel => exact ⟨k + 1, n, mk, V', c', ys', by omega, rfl, by go_num, HN.out⟩
              case measure => simp [intOf]; omega
            | true =>
              rw [hsn] at HS1
              by_cases hin : x ≤ n ∧ n < y
              · have i1 : x ≤ n := hin.1
                have i2 : n < y := hin.2
                have i3 : decide (n ≥ x) = true := decide_eq_true i1
                have HNX := Lib.hid (HNX.out hsn hin)
                clear hsn HPS HSK hin
                go_wp2_with fail
                rw [← hWX]
                clear hWX
                refine HS1.out.mono ?_
                rintro e w2 ⟨rfl, hb2⟩
                have HB2 := Lib.hid (HBX.out.trans (hb2.mono HBX.out.size))
                have f0 : w2.cell? ⟨wr.heap.size, 0, none⟩ = some (.string p) := (HBK.out.below hb2 HBK.out.lt).cell 0
                have HAW := Lib.hid (HAD.out w2 HB2.out ⟨⟨0, 0⟩, 2, p, 0, []⟩ (Own.nil _ _ _ _))
                have HNY := Lib.hid (HNX.out w2)
                clear hb2 HNX HAD e0 e1 e2
                unfold LOp.val at HAW
                go_wp2_with fail
                refine HAW.out.mono ?_
                rintro e w3 ⟨rfl, ht⟩
                have HF := Lib.hid (HNY.out w3 HB2.out ht)
                clear ht
                go_wp2_with fail
                go_roundw
                case rel =>
                  obtain ⟨V2, c2, ys2, hfin⟩ := HF.out
                  exact ⟨k + 1, n + 1, _, V2, c2, ys2, by omega, by first | rfl | rw [q1], by go_num, hfin⟩
                case measure => simp [intOf]; omega
              · have HPS := Lib.hid (HPS.out hsn hin)
                by_cases i1 : x ≤ n
                · have i2 : ¬ n < y := fun h => hin ⟨i1, h⟩
                  have i3 : decide (n ≥ x) = true := decide_eq_true i1
                  clear hsn HNX HSK hin HAD
                  go_wp2_with fail
                  rw [← hWX]
                  clear hWX
                  refine HS1.out.mono ?_
                  rintro e w2 ⟨rfl, hb2⟩
                  have HN := Lib.hid (HPS.out w2 (HBX.out.trans (hb2.mono HBX.out.size)))
                  clear hb2
                  go_wp2_with fail
                  go_roundw
                  case rel => exact ⟨k + 1, n + 1, mk, V', c', ys', by omega, by first | rfl | rw [q1], by go_num, HN.out⟩
                  case measure => simp [intOf]; omega
                · have i3 : decide (n ≥ x) = false := decide_eq_false i1
                  clear hsn HNX HSK hin HAD
                  go_wp2_with fail
                  rw [← hWX]
                  clear hWX
                  refine HS1.out.mono ?_
                  rintro e w2 ⟨rfl, hb2⟩
                  have HN := Lib.hid (HPS.out w2 (HBX.out.trans (hb2.mono HBX.out.size)))
                  clear hb2
                  go_wp2_with fail
                  go_roundw
                  case rel => exact ⟨k + 1, n + 1, mk, V', c', ys', by omega, by first | rfl | rw [q1], by go_num, HN.out⟩
                  case measure => simp [intOf]; omega
          · have k1 : ¬ (k : Int) < (l.length : Int) := by omega
            have HF2 := Lib.hid (HK.out.fin (by omega))
            go_wp2_with fail
            go_ret
            rw [HF.out]
            exact ⟨rfl, HF2.out⟩
end Go.Proofs.YthfbjfocmnikaaaGreatDoor
/- edit.Delete, walked. Conditions: the document is right; the numbers are of 64 bits. -/
namespace Go.Proofs.YthfbjfocmnikaaaGreatDoor
open Go.RowKit
set_option linter.unusedVariables false
set_option maxRecDepth 100000 in
set_option maxHeartbeats 4000000 in
theorem delete_any (w : World) (B : Nat) (S : List Nat) (b : Nat) (st : LDoc) (D : DLay) (h : DocIs w B S b st D) (ok : st.Ok) (who x y : Int) (hw0 : -9223372036854775808 ≤ who) (hw1 : who ≤ 9223372036854775807) (hx0 : -9223372036854775808 ≤ x) (hx1 : x ≤ 9223372036854775807) (hy0 : -9223372036854775808 ≤ y) (hy1 : y ≤ 9223372036854775807) :
    Calls Tryz.prog 165 #[.pointer (some ⟨b, 0, none⟩), .int .i64 who, .int .i64 x, .int .i64 y] w (EditPost w (st.delE who x y) (st.delR who x y)) := by
  have HN := Lib.hid (newMk_any w B S b st D h ok who hw0 hw1)
  have HD := Lib.hid h
  have HOK := Lib.hid ok
  have HE0 : errV 0 = .nilIface := rfl
  have HE1 := errV_ne (show (1 : Int) ≠ 0 by decide)
  clear h ok
  by_cases hw : LDoc.whoE who = 0
  · have HN : Hid (Calls Tryz.prog 89 #[.pointer (some ⟨b, 0, none⟩), .int .i64 who] w fun e w' => ∃ b, e = .returned (.tuple #[.pointer (some ⟨b, 0, none⟩), .nilIface]) ∧ MkIs w' w.heap.size b (st.maker who) none 0 [] ∧ Below w.heap.size w w') :=
      HN.out.mono fun e w' hh => by
        rcases hh with ⟨_, h1⟩ | ⟨h1, _⟩
        · exact h1
        · exact absurd hw h1
    have HIE : Hid (st.delE who x y = ((st.maker who).del st.book x y).2) := by show _ = _; unfold LDoc.delE; rw [if_neg (by omega)]
    have HIR : Hid (st.delR who x y = if ((st.maker who).del st.book x y).2 = 0 then ((st.maker who).del st.book x y).1.ops else []) := by show _ = _; unfold LDoc.delR; rw [HIE.out]
    have hmn : 0 ≤ (st.maker who).n ∧ (st.maker who).n ≤ 9999 := by
      obtain ⟨k, hk, _, e, h1, h2⟩ := nOf_known HOK.out.known hw
      exact ⟨by rw [e] at h1; exact h1, by rw [e] at h2; exact h2⟩
    have hmo : (st.maker who).ops.length = 0 := rfl
    clear hw
    generalize hr : (st.maker who).del st.book x y = r at *
    obtain ⟨m', k⟩ := r
    simp only at HIE HIR
    have HRR := Lib.hid hr
    clear hr
    have hmn0 := hmn.1
    have hmn1 := hmn.2
    clear hmn
    generalize st.maker who = m at *
    rw [HIE.out, HIR.out]
    clear HIE HIR
    generalize hres : (if k = 0 then m'.ops else []) = res
    have HRES := Lib.hid hres
    clear hres
    go_enter Tryz.func165, Tryz.ntmps165
    go_wp2_with fail
    refine HN.out.mono ?_
    rintro e w1 ⟨bm, rfl, hm, hb⟩
    have HM := Lib.hid hm
    have HB1 := Lib.hid hb
    have HBK := Lib.hid (book_doc w1 _ _ _ _ _ (HD.out.below hb) HOK.out)
    clear hm hb HN
    go_wp2_with fail
    refine HBK.out.mono ?_
    rintro e w2 ⟨V, c, rfl, hO, hb⟩
    have HB2 := Lib.hid (HB1.out.trans (hb.mono HB1.out.size))
    have HM2 := Lib.hid (HM.out.below hb)
    have hs2 := HB2.out.size
    have HI : Hid (Calls Tryz.prog 93 #[.pointer (some ⟨bm, 0, none⟩), .slice V st.book.length c, .int .i64 x, .int .i64 y] w2 fun e w' => e = .returned (errV k) ∧ MkTo w2 w.heap.size bm none m' w') := by
      have := mkDel_any w2 w.heap.size bm m none 0 [] HM2.out hs2 V c st.book hO.reads HOK.out.book (fun g hg => ⟨fun e => by
        have h1 := (hO.lt g hg).1
        have h2 := HM.out.blk.lt
        omega, by simp [ob]⟩) x y hx0 hx1 hy0 hy1 hmn0 (by omega) (by omega)
      rw [HRR.out] at this
      exact this
    obtain ⟨ev, hev⟩ : ∃ ev, ev = errV k := ⟨_, rfl⟩
    rw [← hev] at HI
    have HEV := Lib.hid hev
    clear hO hb HBK HM hev
    go_wp2_with fail
    refine HI.out.mono ?_
    rintro e w3 ⟨rfl, ht3⟩
    have HB3 := Lib.hid (HB2.out.trans (MkTo.below HM2.out ht3 (Nat.le_refl _) hs2))
    obtain ⟨V', c', ys', hm3, _, _⟩ := ht3
    have HM3 := Lib.hid hm3
    have HDN := Lib.hid (mkDone_any w3 _ _ _ _ _ _ hm3 k)
    rw [← HEV.out] at HDN
    clear hm3 HI
    go_wp2_with fail
    refine HDN.out.mono ?_
    rintro e w4 ⟨rfl, rfl⟩
    have HF : Hid (∃ V2 c2 ys2, (if k = 0 then Value.slice V' ys'.length c' else .slice none 0 0) = .slice V2 ys2.length c2 ∧ ys2.map OpAt.op = (if k = 0 then m'.ops else []) ∧ OwnOps w4 w.heap.size V2 c2 ys2) := by
      by_cases hk : k = 0
      · rw [if_pos hk, if_pos hk]; exact ⟨_, _, _, rfl, HM3.out.same, HM3.out.ops⟩
      · rw [if_neg hk, if_neg hk]; exact ⟨none, 0, [], rfl, rfl, ⟨Own.nil _ _ _ _, by simp⟩⟩
    obtain ⟨V2, c2, ys2, f1, f2, f3⟩ := HF.out
    rw [f1]
    have F2 := Lib.hid f2
    have F3 := Lib.hid f3
    clear HF f1 f2 f3 HDN
    go_wp2_with fail
    go_ret2
    exact ⟨V2, c2, ys2, by rw [← HEV.out]; rfl, by rw [← HRES.out]; exact F2.out, F3.out, HB3.out⟩
  · have HN : Hid (Calls Tryz.prog 89 #[.pointer (some ⟨b, 0, none⟩), .int .i64 who] w fun e w' => e = .returned (.tuple #[.pointer none, errV 1]) ∧ Below w.heap.size w w') :=
      HN.out.mono fun e w' hh => by
        rcases hh with ⟨h1, _⟩ | ⟨_, h1⟩
        · exact absurd h1 hw
        · exact h1
    have HIE : Hid (st.delE who x y = 1) := if_pos hw
    have HIR : Hid (st.delR who x y = []) := by show _ = _; unfold LDoc.delR; rw [HIE.out, if_neg (by decide)]
    rw [HIE.out, HIR.out]
    rw [HE1] at HN
    clear hw HIE HIR
    go_enter Tryz.func165, Tryz.ntmps165
    go_wp2_with fail
    refine HN.out.mono ?_
    rintro e w1 ⟨rfl, hb⟩
    have HB1 := Lib.hid hb
    clear hb
    go_wp2_with fail
    go_ret2
    have := edit_bad (k := 1) HB1.out
    rw [HE1] at this
    exact this
end Go.Proofs.YthfbjfocmnikaaaGreatDoor
/- The ops of an edit are few and small: plain. Conditions: none. -/
namespace Go.Proofs.YthfbjfocmnikaaaGreatDoor
open Go.RowKit
set_option linter.unusedVariables false
theorem strikes_places (a b : Int) : ∀ (l : List LLeaf) (at_ : Int) (m : LMk), (∀ o ∈ (LMk.strikes a b l at_ m).ops, o ∈ m.ops ∨ ∃ x ∈ l, o.place = x.place) ∧ (LMk.strikes a b l at_ m).ops.length ≤ m.ops.length + l.length
  | [], at_, m => ⟨fun o ho => .inl ho, by simp [LMk.strikes]⟩
  | x :: l, at_, m => by
    unfold LMk.strikes
    split
    · split
      · obtain ⟨h1, h2⟩ := strikes_places a b l (at_ + 1) (m.st x.place)
        refine ⟨fun o ho => ?_, ?_⟩
        · rcases h1 o ho with h | ⟨y, hy, e⟩
          · rcases List.mem_append.1 h with h | h
            · exact .inl h
            · simp at h; subst h; exact .inr ⟨x, by simp, rfl⟩
          · exact .inr ⟨y, by simp [hy], e⟩
        · have : (m.st x.place).ops.length = m.ops.length + 1 := by simp [LMk.st, LMk.add]
          rw [List.length_cons]; omega
      · obtain ⟨h1, h2⟩ := strikes_places a b l (at_ + 1) m
        refine ⟨fun o ho => ?_, by rw [List.length_cons]; omega⟩
        rcases h1 o ho with h | ⟨y, hy, e⟩
        · exact .inl h
        · exact .inr ⟨y, by simp [hy], e⟩
    · obtain ⟨h1, h2⟩ := strikes_places a b l at_ m
      refine ⟨fun o ho => ?_, by rw [List.length_cons]; omega⟩
      rcases h1 o ho with h | ⟨y, hy, e⟩
      · exact .inl h
      · exact .inr ⟨y, by simp [hy], e⟩
theorem nth_below : ∀ (l : List LLeaf) (k : Nat) (off : Int), 0 ≤ nthFrom k l off → off < (l.length : Int)
  | [], _, _ => fun h => by unfold nthFrom at h; omega
  | x :: l, k, off => fun h => by
    unfold nthFrom at h
    rw [List.length_cons]
    split at h
    · split at h
      · omega
      · have := nth_below l (k + 1) (off - 1) h; omega
    · have := nth_below l (k + 1) off h; omega
namespace LDoc
theorem spot_small {d : LDoc} (hk : d.Ok) (off : Int) : (d.spot off).size ≤ 12 := by
  unfold spot
  rw [List.getD]
  cases h : d.book[(nthFrom 0 d.book off).toNat]? with
  | none => exact Nat.zero_le _
  | some x => exact place_small (hk.book.leafs x (List.mem_of_getElem? h)).place
theorem delR_small {d : LDoc} (hk : d.Ok) (who a b : Int) : (∀ o ∈ d.delR who a b, o.place.size ≤ 12) ∧ (d.delR who a b).length ≤ 1000 := by
  unfold delR LMk.del
  split
  · split
    · exact ⟨by simp [maker], by simp [maker]⟩
    · obtain ⟨h1, h2⟩ := strikes_places a b d.book 0 (d.maker who)
      refine ⟨fun o ho => ?_, ?_⟩
      · rcases h1 o ho with h | ⟨x, hx, e⟩
        · simp [maker] at h
        · rw [e]; exact place_small (hk.book.leafs x hx).place
      · have := hk.book.few
        have e : (d.maker who).ops.length = 0 := rfl
        simp only
        omega
  · exact ⟨by simp, by simp⟩
theorem splR_small {d : LDoc} (hk : d.Ok) (who off : Int) : (∀ o ∈ d.splR who off, o.place.size ≤ 12) ∧ (d.splR who off).length ≤ 1000 := by
  unfold splR
  split
  · refine ⟨fun o ho => ?_, by simp [LMk.add, maker]⟩
    simp [LMk.add, maker] at ho
    subst ho
    exact spot_small hk off
  · exact ⟨by simp, by simp⟩
theorem fusR_small {d : LDoc} (hk : d.Ok) (who off : Int) : (∀ o ∈ d.fusR who off, o.place.size ≤ 12) ∧ (d.fusR who off).length ≤ 1000 := by
  unfold fusR
  split
  · refine ⟨fun o ho => ?_, by simp [LMk.add, maker]⟩
    simp [LMk.add, maker] at ho
    subst ho
    exact spot_small hk off
  · exact ⟨by simp, by simp⟩
theorem evL_small {d : LDoc} (hk : d.Ok) (e : LEv) : (∀ o ∈ d.evL e, o.place.size ≤ 12) ∧ (d.evL e).length ≤ 1000 := by
  unfold evL
  split
  · exact ⟨insR_small, by have := insR_len (d := d) (who := e.a + 1) (off := e.b) (text := oneT e.c); omega⟩
  split
  · exact delR_small hk _ _ _
  split
  · exact splR_small hk _ _
  · exact fusR_small hk _ _
end LDoc
end Go.Proofs.YthfbjfocmnikaaaGreatDoor
/- (*net.Net).edit, walked. Conditions: the documents are right. -/
namespace Go.Proofs.YthfbjfocmnikaaaGreatDoor
open Go.RowKit
set_option linter.unusedVariables false
/-- The box of an event lies there. -/
def EvBox (w : World) (g : Nat) (e : LEv) : Prop := w.cell? ⟨g, 0, none⟩ = some (.int .i64 e.what) ∧ w.cell? ⟨g, 1, none⟩ = some (.int .i64 e.a) ∧ w.cell? ⟨g, 2, none⟩ = some (.int .i64 e.b) ∧ w.cell? ⟨g, 3, none⟩ = some (.int .i64 e.c)
theorem EvBox.of {w : World} {g : Nat} {e : LEv} (h : Blk w g 96 e.cells) : EvBox w g e := ⟨by rw [h.cell]; rfl, by rw [h.cell]; rfl, by rw [h.cell]; rfl, by rw [h.cell]; rfl⟩
set_option maxRecDepth 100000 in
set_option maxHeartbeats 8000000 in
theorem nedit_any (w : World) (B : Nat) (S : List Nat) (b : Nat) (N : LNet) (ds : List NodeAt) (A1 : Option Addr) (c1 : Nat) (A2 : Option Addr) (c2 : Nat) (h : NetAt w B S b N ds A1 c1 A2 c2) (ok : N.Ok) (e : LEv) (hwf : e.Wf) (hed : LNet.editB e) :
    Calls Tryz.prog 106 #[.pointer (some ⟨b, 0, none⟩), .agg e.cells] w (fun r w' => r = .returned (errV (N.editE e)) ∧ NetTo w B S b (N.edit e) w') := by
  have HE0 : errV 0 = .nilIface := rfl
  have HE1 := Lib.hid (errV_ne (show (1 : Int) ≠ 0 by decide))
  have HB0 : Hid (Below w.heap.size w (w.alloc (.cells e.cells 96))) := (Below.refl _ _).alloc (Nat.le_refl _) _
  have HA0 := Lib.hid (h.below HB0.out)
  have HX0 := Lib.hid (Blk.new w 96 e.cells)
  have HN := Lib.hid (nnode_any _ B S b N ds A1 c1 A2 c2 HA0.out e.a)
  obtain ⟨x0, x1, x2, x3⟩ := EvBox.of HX0.out
  obtain ⟨⟨hw0, hw1⟩, ⟨ha0, ha1⟩, ⟨hb0, hb1⟩, hc0, hc1⟩ := hwf
  cases hnb : N.nodeB e.a with
  | false =>
    have HR : Hid (N.editE e = 1 ∧ N.edit e = N) := ⟨by unfold LNet.editE; rw [if_pos hnb], by unfold LNet.edit; rw [if_pos hnb]⟩
    rw [HR.out.1, HR.out.2, HE1.out]
    have HT := Lib.hid (h.self_ HB0.out)
    rw [hnb] at HN
    obtain ⟨ew, ea, eb, ec⟩ := e
    unfold LEv.cells at *
    simp only at *
    clear h hnb ok hed
    go_enter Tryz.func106, Tryz.ntmps106
    go_wp2_with fail
    refine HN.out.mono ?_
    rintro r w' ⟨rfl, hw⟩
    obtain rfl := hw.symm
    go_wp2_with fail
    go_ret
    exact ⟨rfl, HT.out⟩
  | true =>
    obtain ⟨i0, i1⟩ := LNet.nodeB_iff.1 hnb
    obtain ⟨ew, ea, eb, ec⟩ := e
    simp only at i0 i1 ha0 ha1 hb0 hb1 hc0 hc1 hw0 hw1
    obtain ⟨i, rfl⟩ : ∃ i : Nat, ea = (i : Int) := ⟨ea.toNat, by omega⟩
    have hi : i < ds.length := by rw [h.len]; omega
    have h4 := (h.lt4 ok).2
    obtain ⟨g, rfl, _⟩ := h.ptr hi
    have hptr : (w.alloc (.cells (⟨ew, i, eb, ec⟩ : LEv).cells 96)).cell? ⟨g, i, none⟩ = some (.pointer (some ⟨ds[i].b, 0, none⟩)) := by
      obtain ⟨g', e', hp⟩ := HA0.out.ptr hi
      injection e' with e'
      injection e' with e'
      subst e'
      exact hp
    have q0 : (w.alloc (.cells (⟨ew, i, eb, ec⟩ : LEv).cells 96)).cell? ⟨b, 0, none⟩ = some (.slice (some ⟨g, 0, none⟩) ds.length c1) := HA0.out.cells.1
    have k1 : (i : Int) < (ds.length : Int) := by omega
    have q2 : IntKind.i64.wrap ((i : Int) + 1) = (i : Int) + 1 := IntWalk.i64_in _ (by omega)
    have hst := HA0.out.nodes i hi
    have hok := ok.doc i
    have hme : N.editE ⟨ew, i, eb, ec⟩ = (N.doc i).editE ⟨ew, i, eb, ec⟩ := by unfold LNet.editE; rw [if_neg (by rw [hnb]; simp)]; simp
    have hmd : N.edit ⟨ew, i, eb, ec⟩ = ⟨N.docs.set i ((N.doc i).editR ⟨ew, i, eb, ec⟩), N.under⟩ := by unfold LNet.edit; rw [if_neg (by rw [hnb]; simp)]; simp
    have hself : (⟨N.docs.set i (N.doc i), N.under⟩ : LNet) = N := by
      have : N.docs.set i (N.doc i) = N.docs := by
        rw [LNet.doc_get (by rw [← h.len]; exact hi)]
        exact List.set_getElem_self _
      rw [this]
    have HSELF := Lib.hid (h.self_ HB0.out)
    have HDO : Hid (∀ (w1 : World) (N0 : Nat) (V : Option Addr) (c : Nat) (zs : List OpAt), w.heap.size ≤ N0 → Below w.heap.size w w1 → zs.map OpAt.op = (N.doc i).evL ⟨ew, i, eb, ec⟩ → OwnOps w1 N0 V c zs →
        Calls Tryz.prog 90 #[.pointer (some ⟨ds[i].b, 0, none⟩), .slice V zs.length c] w1 (fun r w' => r = .returned (errV ((N.doc i).doE ((N.doc i).evL ⟨ew, i, eb, ec⟩))) ∧ NetTo w B S b ⟨N.docs.set i ((N.doc i).doR ((N.doc i).evL ⟨ew, i, eb, ec⟩)), N.under⟩ w')) := fun w1 N0 V c zs hN0 hb1 hz ho => by
      have hA1 := h.below hb1
      have hD1 := hA1.nodes i hi
      have hsm := LDoc.evL_small hok ⟨ew, i, eb, ec⟩
      have hlow : ∀ g ∈ ds[i].S, g < w.heap.size := fun g hg => (h.own g (h.subs _ (List.getElem_mem hi) g hg)).2
      have hby := OpsBy.of_own (S := ds[i].S) ho (by rw [hz]; exact hsm.1) (fun g hg => by have := hlow g hg; omega)
      have hlen : zs.length ≤ 1000000 := by have := hsm.2; rw [← hz, List.length_map] at this; omega
      have := hby.do_ hD1 hok c hlen
      rw [hz] at this
      refine this.mono ?_
      rintro r w' ⟨rfl, ht⟩
      obtain ⟨S', ds', t1, t2, t3⟩ := hA1.turn hi ht
      have hz1 := hb1.size
      exact ⟨rfl, S', ⟨_, _, _, _, _, t1⟩, (Only.of_below hb1).trans (t2.mono (fun g hg => .inl (h.subs _ (List.getElem_mem hi) g hg))), fun g hg => by
        rcases t3 g hg with h5 | h5
        · exact .inl h5
        · exact .inr (by omega)⟩
    have hfail : (N.doc i).evE ⟨ew, i, eb, ec⟩ ≠ 0 → N.editE ⟨ew, i, eb, ec⟩ = (N.doc i).evE ⟨ew, i, eb, ec⟩ ∧ N.edit ⟨ew, i, eb, ec⟩ = N := fun hne => by
      rw [hme, hmd]
      unfold LDoc.editE LDoc.editR
      rw [if_pos hne, if_pos hne]
      exact ⟨rfl, hself⟩
    have hgo : (N.doc i).evE ⟨ew, i, eb, ec⟩ = 0 → N.editE ⟨ew, i, eb, ec⟩ = (N.doc i).doE ((N.doc i).evL ⟨ew, i, eb, ec⟩) ∧ N.edit ⟨ew, i, eb, ec⟩ = ⟨N.docs.set i ((N.doc i).doR ((N.doc i).evL ⟨ew, i, eb, ec⟩)), N.under⟩ := fun hne => by
      rw [hme, hmd]
      unfold LDoc.editE LDoc.editR
      rw [if_neg (by simp [hne]), if_neg (by simp [hne])]
      exact ⟨rfl, rfl⟩
    have HD : Hid (∀ W, Below w.heap.size w W → DocIs W B ds[i].S ds[i].b (N.doc i) ds[i].D) := fun W hW => (h.below hW).nodes i hi
    have HTS : Hid (∀ W, Below w.heap.size w W → NetTo w B S b N W) := fun W hW => h.self_ hW
    have HFAIL := Lib.hid hfail
    have HGO := Lib.hid hgo
    have HST := Lib.hid hst
    have HOK := Lib.hid hok
    rw [hnb] at HN
    unfold LEv.cells at *
    simp only at *
    unfold LNet.editB at hed
    simp only at hed
    clear h hnb ok hme hmd hself hfail hgo hst hok HX0
    generalize hsto : N.doc i = st at *
    clear hsto
    generalize hpb : ds[i].b = p at *
    generalize hpS : ds[i].S = Si at *
    generalize hpD : ds[i].D = Di at *
    clear hpb hpS hpD i0 i1
    have HB1 := Lib.hid (letter_any)
    rcases hed with rfl | rfl | rfl | rfl
    · have HEV : Hid (st.evE ⟨1, i, eb, ec⟩ = (if letterB ec = false then 1 else st.insE ((i : Int) + 1) eb (oneT ec)) ∧ st.evL ⟨1, i, eb, ec⟩ = st.insR ((i : Int) + 1) eb (oneT ec)) := ⟨by unfold LDoc.evE; simp, by unfold LDoc.evL; simp⟩
      have HBN : Hid (∀ n, Below w.heap.size w ((w.alloc (.cells #[.int .i64 1, .int .i64 i, .int .i64 eb, .int .i64 ec] 96)).drewN n)) := fun n => below_drewN HB0.out n
      have HLET := Lib.hid (fun W => letter_any W ec)
      clear HB1
      cases hlet : letterB ec with
      | false =>
        rw [hlet, if_pos rfl] at HEV
        rw [HEV.out.1] at HFAIL
        obtain ⟨z1, z2⟩ := HFAIL.out (by decide)
        rw [z1, z2, HE1.out]
        rw [hlet] at HLET
        clear z1 z2 hlet HFAIL HGO HSELF HOK HST HD HA0 HDO HEV
        go_enter Tryz.func106, Tryz.ntmps106
        go_wp2_with fail
        refine HN.out.mono ?_
        rintro r w' ⟨rfl, hw⟩
        obtain rfl := hw.symm
        clear HN
        go_wp2_with fail
        go_quiet (fail)
        go_wp2_with fail
        refine (HLET.out _).mono ?_
        rintro r w2 ⟨rfl, hw2⟩
        obtain rfl := hw2.symm
        have HN3 := Lib.hid (HTS.out _ (HBN.out nq))
        clear hw hw2
        go_wp2_with fail
        go_ret
        exact ⟨rfl, HN3.out⟩
      | true =>
        rw [hlet, if_neg (by simp)] at HEV
        have HONE : Hid (oneT ec = ⟨#[UInt8.ofNat ec.toNat]⟩) := rfl
        have hlr : 32 ≤ ec ∧ ec ≤ 126 := by unfold letterB at hlet; simpa using hlet
        obtain ⟨cn, rfl⟩ : ∃ n : Nat, ec = (n : Int) := ⟨ec.toNat, by omega⟩
        have q5 : IntKind.u8.wrap (cn : Int) = (cn : Int) := by have := hlr.1; have := hlr.2; show ((cn : Int)) % 256 = _; omega
        rw [hlet] at HLET
        have HCV : Hid (∀ n, (convert 122 9 (.slice (some ⟨w.heap.size + 1, 0, none⟩) 1 1)).run Tryz.prog (((w.alloc (.cells #[.int .i64 1, .int .i64 i, .int .i64 eb, .int .i64 (cn : Int)] 96)).drewN n).alloc (.cells #[.int .u8 (cn : Int)] 5)) = .ok (.string (oneT (cn : Int))) (((w.alloc (.cells #[.int .i64 1, .int .i64 i, .int .i64 eb, .int .i64 (cn : Int)] 96)).drewN n).alloc (.cells #[.int .u8 (cn : Int)] 5))) := fun n => by
          have h1 := hlr.1
          have h2 := hlr.2
          have := conv_own (Own.fresh ((w.alloc (.cells #[.int .i64 1, .int .i64 i, .int .i64 eb, .int .i64 (cn : Int)] 96)).drewN n) 0 (Nat.zero_le _) [UInt8.ofNat cn] (by simp) #[.int .u8 (cn : Int)] (by simp [bs]; omega))
          have e : ((w.alloc (.cells #[.int .i64 1, .int .i64 i, .int .i64 eb, .int .i64 (cn : Int)] 96)).drewN n).heap.size = w.heap.size + 1 := by simp [World.drewN]
          rw [e] at this
          exact this
        have HBA : Hid (∀ n, Below w.heap.size w (((w.alloc (.cells #[.int .i64 1, .int .i64 i, .int .i64 eb, .int .i64 (cn : Int)] 96)).drewN n).alloc (.cells #[.int .u8 (cn : Int)] 5))) := fun n => (HBN.out n).alloc (HBN.out n).size _
        have hone : (oneT (cn : Int)).size ≤ 9223372036854775807 := by rw [HONE.out]; simp [ByteArray.size]
        have HCALL := Lib.hid (fun W (hW : Below w.heap.size w W) => insert_any W B Si p st Di (HD.out W hW) HOK.out ((i : Int) + 1) eb (oneT (cn : Int)) (by omega) (by omega) hb1 hone)
        unfold EditPost at HCALL
        clear hlet hlr hone HONE
        rw [HEV.out.1] at HFAIL HGO
        rw [HEV.out.2] at HGO HDO
        generalize oneT (cn : Int) = tx at *
        by_cases hev : st.insE ((i : Int) + 1) eb tx = 0
        · obtain ⟨z1, z2⟩ := HGO.out hev
          rw [z1, z2]
          rw [hev, HE0] at HCALL
          clear z1 z2 hev HFAIL HGO HSELF HOK HST HD HA0 HE1 HEV
          go_enter Tryz.func106, Tryz.ntmps106
          go_wp2_with fail
          refine HN.out.mono ?_
          rintro r w' ⟨rfl, hw⟩
          obtain rfl := hw.symm
          clear HN
          go_wp2_with fail
          go_quiet (fail)
          go_wp2_with fail
          refine (HLET.out _).mono ?_
          rintro r w2 ⟨rfl, hw2⟩
          obtain rfl := hw2.symm
          have hcv := HCV.out nq
          clear hw hw2
          go_wp2_with fail
          refine (HCALL.out _ (HBA.out nq)).mono ?_
          rintro r w3 ⟨V, c, zs, rfl, hz, hO, hb2⟩
          have HB2 := Lib.hid ((HBA.out nq).trans (hb2.mono (HBA.out nq).size))
          have HZ := Lib.hid hz
          have HO := Lib.hid hO
          have HLOW := Lib.hid (HBA.out nq).size
          clear hz hO hb2
          go_wp2_with fail
          refine (HDO.out w3 _ V c zs HLOW.out HB2.out HZ.out HO.out).mono ?_
          rintro r w4 ⟨rfl, hn⟩
          have HN3 := Lib.hid hn
          clear hn
          go_wp2_with fail
          go_ret
          exact ⟨rfl, HN3.out⟩
        · obtain ⟨z1, z2⟩ := HFAIL.out hev
          have HK := Lib.hid (errV_ne hev)
          rw [z1, z2, HK.out]
          rw [HK.out] at HCALL
          clear z1 z2 hev HFAIL HGO HSELF HOK HST HD HA0 HDO HE1 HEV
          go_enter Tryz.func106, Tryz.ntmps106
          go_wp2_with fail
          refine HN.out.mono ?_
          rintro r w' ⟨rfl, hw⟩
          obtain rfl := hw.symm
          clear HN
          go_wp2_with fail
          go_quiet (fail)
          go_wp2_with fail
          refine (HLET.out _).mono ?_
          rintro r w2 ⟨rfl, hw2⟩
          obtain rfl := hw2.symm
          have hcv := HCV.out nq
          clear hw hw2
          go_wp2_with fail
          refine (HCALL.out _ (HBA.out nq)).mono ?_
          rintro r w3 ⟨V, c, zs, rfl, hz, hO, hb2⟩
          have HB2 := Lib.hid ((HBA.out nq).trans (hb2.mono (HBA.out nq).size))
          have HZ := Lib.hid hz
          have HO := Lib.hid hO
          have HLOW := Lib.hid (HBA.out nq).size
          clear hz hO hb2
          have HN3 := Lib.hid (HTS.out w3 HB2.out)
          clear HB2 HZ HO
          go_wp2_with fail
          go_ret
          exact ⟨rfl, HN3.out⟩
    · have HEV : Hid (st.evE ⟨2, i, eb, ec⟩ = (if atErr st.book eb ≠ 0 then atErr st.book eb else st.delE ((i : Int) + 1) eb (eb + 1)) ∧ st.evL ⟨2, i, eb, ec⟩ = st.delR ((i : Int) + 1) eb (eb + 1)) := ⟨by unfold LDoc.evE; simp, by unfold LDoc.evL; simp⟩
      have HBN : Hid (∀ n, Below (w.alloc (.cells #[.int .i64 2, .int .i64 i, .int .i64 eb, .int .i64 ec] 96)).heap.size (w.alloc (.cells #[.int .i64 2, .int .i64 i, .int .i64 eb, .int .i64 ec] 96)) ((w.alloc (.cells #[.int .i64 2, .int .i64 i, .int .i64 eb, .int .i64 ec] 96)).drewN n)) := fun n => below_drewN (Below.refl _ _) n
      have HBW : Hid (∀ W, Below (w.alloc (.cells #[.int .i64 2, .int .i64 i, .int .i64 eb, .int .i64 ec] 96)).heap.size (w.alloc (.cells #[.int .i64 2, .int .i64 i, .int .i64 eb, .int .i64 ec] 96)) W → Below w.heap.size w W) := fun W hW => HB0.out.trans (hW.mono HB0.out.size)
      have HX2 : Hid (∀ W, Below (w.alloc (.cells #[.int .i64 2, .int .i64 i, .int .i64 eb, .int .i64 ec] 96)).heap.size (w.alloc (.cells #[.int .i64 2, .int .i64 i, .int .i64 eb, .int .i64 ec] 96)) W → W.cell? ⟨w.heap.size, 2, none⟩ = some (.int .i64 eb)) := fun W hW => (hW.cell (p := ⟨w.heap.size, 2, none⟩) (by simp)).trans x2
      obtain ⟨nth, hnth⟩ : ∃ nth, nth = (if atErr st.book eb = 0 then nthFrom 0 st.book eb else 0) := ⟨_, rfl⟩
      have HBK : Hid (∀ W, Below (w.alloc (.cells #[.int .i64 2, .int .i64 i, .int .i64 eb, .int .i64 ec] 96)).heap.size (w.alloc (.cells #[.int .i64 2, .int .i64 i, .int .i64 eb, .int .i64 ec] 96)) W → Calls Tryz.prog 23 #[.pointer (some ⟨p, 0, none⟩)] W (fun r w' => ∃ V c, r = .returned (.slice V st.book.length c) ∧ Below (w.alloc (.cells #[.int .i64 2, .int .i64 i, .int .i64 eb, .int .i64 ec] 96)).heap.size (w.alloc (.cells #[.int .i64 2, .int .i64 i, .int .i64 eb, .int .i64 ec] 96)) w' ∧ w'.cell? ⟨w.heap.size, 2, none⟩ = some (.int .i64 eb) ∧
          Hid (∀ W2, Below w'.heap.size w' W2 → Calls Tryz.prog 164 #[.slice V st.book.length c, .int .i64 eb] W2 (fun r w4 => r = .returned (.tuple #[.int .i64 nth, errV (atErr st.book eb)]) ∧ Below (w.alloc (.cells #[.int .i64 2, .int .i64 i, .int .i64 eb, .int .i64 ec] 96)).heap.size (w.alloc (.cells #[.int .i64 2, .int .i64 i, .int .i64 eb, .int .i64 ec] 96)) w4 ∧ w4.cell? ⟨w.heap.size, 2, none⟩ = some (.int .i64 eb))))) := fun W hW => by
        refine (book_doc W B Si p st Di (HD.out W (HBW.out W hW)) HOK.out).mono ?_
        rintro r w' ⟨V, c, rfl, hO, hb⟩
        have hb' := hW.trans (hb.mono hW.size)
        refine ⟨V, c, rfl, hb', HX2.out _ hb', fun W2 hW2 => ?_⟩
        have hb2 := hb'.trans (hW2.mono hb'.size)
        have hfew := HOK.out.book.few
        refine (at_any W2 V c st.book eb ((hO.reads.below hW2).more hW2.size) (sized_ok HOK.out.book) (by omega) hb1).mono ?_
        rintro r w4 ⟨rfl, hb4⟩
        have hb4' := hb2.trans (hb4.mono hb2.size)
        exact ⟨by rw [hnth], hb4', HX2.out _ hb4'⟩
      clear HB1 hnth
      by_cases hat : atErr st.book eb = 0
      · have heb : 0 ≤ eb ∧ eb ≤ 1000 := by
          unfold atErr at hat
          split at hat
          · rename_i hbe; exact absurd hat hbe
          · split at hat
            · cases hat
            · rename_i hne
              have h5 : 0 ≤ nthFrom 0 st.book eb := by omega
              have h6 := nth_below st.book 0 eb h5
              have := HOK.out.book.few
              omega
        rw [if_neg (by simp [hat])] at HEV
        rw [hat, HE0] at HBK
        rw [HEV.out.1] at HFAIL HGO
        rw [HEV.out.2] at HGO HDO
        have q6 : IntKind.i64.wrap (eb + 1) = eb + 1 := IntWalk.i64_in _ (by omega)
        have HCALL := Lib.hid (fun W (hW : Below (w.alloc (.cells #[.int .i64 2, .int .i64 i, .int .i64 eb, .int .i64 ec] 96)).heap.size (w.alloc (.cells #[.int .i64 2, .int .i64 i, .int .i64 eb, .int .i64 ec] 96)) W) => delete_any W B Si p st Di (HD.out W (HBW.out W hW)) HOK.out ((i : Int) + 1) eb (eb + 1) (by omega) (by omega) hb0 hb1 (by omega) (by omega))
        unfold EditPost at HCALL
        by_cases hev : st.delE ((i : Int) + 1) eb (eb + 1) = 0
        · obtain ⟨z1, z2⟩ := HGO.out hev
          rw [z1, z2]
          rw [hev, HE0] at HCALL
          clear z1 z2 hev hat heb HFAIL HGO HSELF HOK HST HD HA0 HE1 HEV
          go_enter Tryz.func106, Tryz.ntmps106
          go_wp2_with fail
          refine HN.out.mono ?_
          rintro r w' ⟨rfl, hw⟩
          obtain rfl := hw.symm
          clear HN hw
          go_wp2_with fail
          go_quiet (fail)
          go_wp2_with fail
          have x2n := HX2.out _ (HBN.out nq)
          have HBQ := Lib.hid (HBN.out nq)
          generalize (w.alloc (.cells #[.int .i64 2, .int .i64 i, .int .i64 eb, .int .i64 ec] 96)).drewN nq = WA at *
          clear x0 x1 x2 x3 q0 hptr
          go_region_held3 (fun W' => W'.cell? ⟨w.heap.size, 2, none⟩ = some (.int .i64 eb)) (first | go_keep | assumption)
            (first
              | (go_at_call 23; refine (HBK.out _ (by first | exact HBQ.out | exact below_drewN HBQ.out _ | exact HBQ.out.drew)).mono ?_; rintro r w3 ⟨V, c, rfl, hb3, hx3, HAT⟩
                 clear x2n
                 have x2n := hx3)
              | (go_at_call 164; refine (HAT.out _ (by first | exact Below.refl _ _ | exact below_drewN (Below.refl _ _) _ | exact (Below.refl _ _).drew)).mono ?_; rintro r w4 ⟨rfl, hb4, hx4⟩
                 have HB4 := Lib.hid hb4
                 clear x2n
                 have x2n := hx4
                 clear HAT hb3 hb4 hx3))
          go_wp2_with fail
          refine (HCALL.out _ HB4.out).mono ?_
          rintro r w5 ⟨V2, c2, zs, rfl, hz, hO, hb5⟩
          have HB5 := Lib.hid (HBW.out _ (HB4.out.trans (hb5.mono HB4.out.size)))
          have HZ := Lib.hid hz
          have HO := Lib.hid hO
          have HLOW := Lib.hid (HBW.out _ HB4.out).size
          clear hz hO hb5
          go_wp2_with fail
          refine (HDO.out w5 _ V2 c2 zs HLOW.out HB5.out HZ.out HO.out).mono ?_
          rintro r w6 ⟨rfl, hn⟩
          have HN3 := Lib.hid hn
          clear hn
          go_wp2_with fail
          go_ret
          exact ⟨rfl, HN3.out⟩
        · obtain ⟨z1, z2⟩ := HFAIL.out hev
          have HK := Lib.hid (errV_ne hev)
          rw [z1, z2, HK.out]
          rw [HK.out] at HCALL
          clear z1 z2 hev hat heb HFAIL HGO HSELF HOK HST HD HA0 HDO HE1 HEV
          go_enter Tryz.func106, Tryz.ntmps106
          go_wp2_with fail
          refine HN.out.mono ?_
          rintro r w' ⟨rfl, hw⟩
          obtain rfl := hw.symm
          clear HN hw
          go_wp2_with fail
          go_quiet (fail)
          go_wp2_with fail
          have x2n := HX2.out _ (HBN.out nq)
          have HBQ := Lib.hid (HBN.out nq)
          generalize (w.alloc (.cells #[.int .i64 2, .int .i64 i, .int .i64 eb, .int .i64 ec] 96)).drewN nq = WA at *
          clear x0 x1 x2 x3 q0 hptr
          go_region_held3 (fun W' => W'.cell? ⟨w.heap.size, 2, none⟩ = some (.int .i64 eb)) (first | go_keep | assumption)
            (first
              | (go_at_call 23; refine (HBK.out _ (by first | exact HBQ.out | exact below_drewN HBQ.out _ | exact HBQ.out.drew)).mono ?_; rintro r w3 ⟨V, c, rfl, hb3, hx3, HAT⟩
                 clear x2n
                 have x2n := hx3)
              | (go_at_call 164; refine (HAT.out _ (by first | exact Below.refl _ _ | exact below_drewN (Below.refl _ _) _ | exact (Below.refl _ _).drew)).mono ?_; rintro r w4 ⟨rfl, hb4, hx4⟩
                 have HB4 := Lib.hid hb4
                 clear x2n
                 have x2n := hx4
                 clear HAT hb3 hb4 hx3))
          go_wp2_with fail
          refine (HCALL.out _ HB4.out).mono ?_
          rintro r w5 ⟨V2, c2, zs, rfl, hz, hO, hb5⟩
          have HN3 := Lib.hid (HTS.out w5 (HBW.out _ (HB4.out.trans (hb5.mono HB4.out.size))))
          clear hz hO hb5
          go_wp2_with fail
          go_ret
          exact ⟨rfl, HN3.out⟩
      · rw [if_pos hat] at HEV
        rw [HEV.out.1] at HFAIL
        obtain ⟨z1, z2⟩ := HFAIL.out hat
        have HK := Lib.hid (errV_ne hat)
        rw [z1, z2, HK.out]
        rw [HK.out] at HBK
        clear z1 z2 hat HFAIL HGO HSELF HOK HST HD HA0 HDO HE1 HEV
        go_enter Tryz.func106, Tryz.ntmps106
        go_wp2_with fail
        refine HN.out.mono ?_
        rintro r w' ⟨rfl, hw⟩
        obtain rfl := hw.symm
        clear HN hw
        go_wp2_with fail
        go_quiet (fail)
        go_wp2_with fail
        have x2n := HX2.out _ (HBN.out nq)
        have HBQ := Lib.hid (HBN.out nq)
        generalize (w.alloc (.cells #[.int .i64 2, .int .i64 i, .int .i64 eb, .int .i64 ec] 96)).drewN nq = WA at *
        clear x0 x1 x2 x3 q0 hptr
        go_region_held3 (fun W' => W'.cell? ⟨w.heap.size, 2, none⟩ = some (.int .i64 eb)) (first | go_keep | assumption)
          (first
            | (go_at_call 23; refine (HBK.out _ (by first | exact HBQ.out | exact below_drewN HBQ.out _ | exact HBQ.out.drew)).mono ?_; rintro r w3 ⟨V, c, rfl, hb3, hx3, HAT⟩
               clear x2n
               have x2n := hx3)
            | (go_at_call 164; refine (HAT.out _ (by first | exact Below.refl _ _ | exact below_drewN (Below.refl _ _) _ | exact (Below.refl _ _).drew)).mono ?_; rintro r w4 ⟨rfl, hb4, hx4⟩
               have HB4 := Lib.hid hb4
               clear x2n
               have x2n := hx4
               clear HAT hb3 hb4 hx3))
        have HN3 := Lib.hid (HTS.out w4 (HBW.out _ HB4.out))
        clear HB4
        go_wp2_with fail
        go_ret
        exact ⟨rfl, HN3.out⟩
    · have HEV : Hid (st.evE ⟨7, i, eb, ec⟩ = st.splE ((i : Int) + 1) eb ∧ st.evL ⟨7, i, eb, ec⟩ = st.splR ((i : Int) + 1) eb) := ⟨by unfold LDoc.evE; simp, by unfold LDoc.evL; simp⟩
      rw [HEV.out.1] at HFAIL HGO
      rw [HEV.out.2] at HGO HDO
      have HBN : Hid (∀ n, Below w.heap.size w ((w.alloc (.cells #[.int .i64 7, .int .i64 i, .int .i64 eb, .int .i64 ec] 96)).drewN n)) := fun n => below_drewN HB0.out n
      have HCALL := Lib.hid (fun W (hW : Below w.heap.size w W) => split_any W B Si p st Di (HD.out W hW) HOK.out ((i : Int) + 1) eb (by omega) (by omega) hb1)
      unfold EditPost at HCALL
      clear HEV HB1
      by_cases hev : st.splE ((i : Int) + 1) eb = 0
      · obtain ⟨z1, z2⟩ := HGO.out hev
        rw [z1, z2]
        rw [hev, HE0] at HCALL
        clear z1 z2 hev HFAIL HGO HSELF HOK HST HD HA0 HE1
        go_enter Tryz.func106, Tryz.ntmps106
        go_wp2_with fail
        refine HN.out.mono ?_
        rintro r w' ⟨rfl, hw⟩
        obtain rfl := hw.symm
        clear HN
        go_wp2_with fail
        go_quiet (fail)
        go_wp2_with fail
        refine (HCALL.out _ (HBN.out _)).mono ?_
        rintro r w2 ⟨V, c, zs, rfl, hz, hO, hb2⟩
        have HB2 := Lib.hid ((HBN.out nq).trans (hb2.mono (HBN.out nq).size))
        have HZ := Lib.hid hz
        have HO := Lib.hid hO
        have HLOW := Lib.hid (HBN.out nq).size
        clear hz hO hb2
        go_wp2_with fail
        refine (HDO.out w2 _ V c zs (HLOW.out) HB2.out HZ.out HO.out).mono ?_
        rintro r w3 ⟨rfl, hn⟩
        have HN3 := Lib.hid hn
        clear hn
        go_wp2_with fail
        go_ret
        exact ⟨rfl, HN3.out⟩
      · obtain ⟨z1, z2⟩ := HFAIL.out hev
        have HK := Lib.hid (errV_ne hev)
        rw [z1, z2, HK.out]
        rw [HK.out] at HCALL
        clear z1 z2 hev HFAIL HGO HSELF HOK HST HD HA0 HDO HE1
        go_enter Tryz.func106, Tryz.ntmps106
        go_wp2_with fail
        refine HN.out.mono ?_
        rintro r w' ⟨rfl, hw⟩
        obtain rfl := hw.symm
        clear HN
        go_wp2_with fail
        go_quiet (fail)
        go_wp2_with fail
        refine (HCALL.out _ (HBN.out _)).mono ?_
        rintro r w2 ⟨V, c, zs, rfl, hz, hO, hb2⟩
        have HB2 := Lib.hid ((HBN.out nq).trans (hb2.mono (HBN.out nq).size))
        have HZ := Lib.hid hz
        have HO := Lib.hid hO
        have HLOW := Lib.hid (HBN.out nq).size
        clear hz hO hb2
        have HN3 := Lib.hid (HTS.out w2 HB2.out)
        clear HB2 HZ HO
        go_wp2_with fail
        go_ret
        exact ⟨rfl, HN3.out⟩
    · have HEV : Hid (st.evE ⟨8, i, eb, ec⟩ = st.fusE ((i : Int) + 1) eb ∧ st.evL ⟨8, i, eb, ec⟩ = st.fusR ((i : Int) + 1) eb) := ⟨by unfold LDoc.evE; simp, by unfold LDoc.evL; simp⟩
      rw [HEV.out.1] at HFAIL HGO
      rw [HEV.out.2] at HGO HDO
      have HBN : Hid (∀ n, Below w.heap.size w ((w.alloc (.cells #[.int .i64 8, .int .i64 i, .int .i64 eb, .int .i64 ec] 96)).drewN n)) := fun n => below_drewN HB0.out n
      have HCALL := Lib.hid (fun W (hW : Below w.heap.size w W) => fuse_any W B Si p st Di (HD.out W hW) HOK.out ((i : Int) + 1) eb (by omega) (by omega) hb1)
      unfold EditPost at HCALL
      clear HEV HB1
      by_cases hev : st.fusE ((i : Int) + 1) eb = 0
      · obtain ⟨z1, z2⟩ := HGO.out hev
        rw [z1, z2]
        rw [hev, HE0] at HCALL
        clear z1 z2 hev HFAIL HGO HSELF HOK HST HD HA0 HE1
        go_enter Tryz.func106, Tryz.ntmps106
        go_wp2_with fail
        refine HN.out.mono ?_
        rintro r w' ⟨rfl, hw⟩
        obtain rfl := hw.symm
        clear HN
        go_wp2_with fail
        go_quiet (fail)
        go_wp2_with fail
        refine (HCALL.out _ (HBN.out _)).mono ?_
        rintro r w2 ⟨V, c, zs, rfl, hz, hO, hb2⟩
        have HB2 := Lib.hid ((HBN.out nq).trans (hb2.mono (HBN.out nq).size))
        have HZ := Lib.hid hz
        have HO := Lib.hid hO
        have HLOW := Lib.hid (HBN.out nq).size
        clear hz hO hb2
        go_wp2_with fail
        refine (HDO.out w2 _ V c zs (HLOW.out) HB2.out HZ.out HO.out).mono ?_
        rintro r w3 ⟨rfl, hn⟩
        have HN3 := Lib.hid hn
        clear hn
        go_wp2_with fail
        go_ret
        exact ⟨rfl, HN3.out⟩
      · obtain ⟨z1, z2⟩ := HFAIL.out hev
        have HK := Lib.hid (errV_ne hev)
        rw [z1, z2, HK.out]
        rw [HK.out] at HCALL
        clear z1 z2 hev HFAIL HGO HSELF HOK HST HD HA0 HDO HE1
        go_enter Tryz.func106, Tryz.ntmps106
        go_wp2_with fail
        refine HN.out.mono ?_
        rintro r w' ⟨rfl, hw⟩
        obtain rfl := hw.symm
        clear HN
        go_wp2_with fail
        go_quiet (fail)
        go_wp2_with fail
        refine (HCALL.out _ (HBN.out _)).mono ?_
        rintro r w2 ⟨V, c, zs, rfl, hz, hO, hb2⟩
        have HB2 := Lib.hid ((HBN.out nq).trans (hb2.mono (HBN.out nq).size))
        have HZ := Lib.hid hz
        have HO := Lib.hid hO
        have HLOW := Lib.hid (HBN.out nq).size
        clear hz hO hb2
        have HN3 := Lib.hid (HTS.out w2 HB2.out)
        clear HB2 HZ HO
        go_wp2_with fail
        go_ret
        exact ⟨rfl, HN3.out⟩
end Go.Proofs.YthfbjfocmnikaaaGreatDoor
/- slices.Delete of one parcel, walked. Conditions: the row is of the call's own. -/
namespace Go.Proofs.YthfbjfocmnikaaaGreatDoor
open Go.RowKit
set_option linter.unusedVariables false
theorem Own.prefix {w : World} {B size n c g k : Nat} {e : TypeId} {xs : List Value} (h : Own w B e size (some ⟨g, 0, none⟩) n c xs) (hk : k ≤ n) : Own w B e size (some ⟨g, 0, none⟩) k c (xs.take (k * size)) := by
  obtain ⟨h1, h2⟩ := h
  rcases h2 with ⟨h2, _⟩ | ⟨g', cap, cur, e1, e2, e3, e4, e5, e6, e7⟩
  · cases h2
  · injection e1 with e1 _ ec
    have hle : k * size ≤ n * size := Nat.mul_le_mul_right size hk
    refine ⟨by rw [List.length_take, h1]; omega, .inr ⟨g', cap, cur, by rw [e1, ec], e2, e3, by omega, e5, e6, ?_⟩⟩
    rw [← e7, List.take_take, Nat.min_eq_left hle]
theorem Own.longer {w : World} {B size n c g k : Nat} {e : TypeId} {xs : List Value} (h : Own w B e size (some ⟨g, 0, none⟩) k c xs) (hk : k ≤ n) (hc : n ≤ c) : ∃ ys, Own w B e size (some ⟨g, 0, none⟩) n c ys ∧ ys.take (k * size) = xs := by
  obtain ⟨h1, h2⟩ := h
  rcases h2 with ⟨h2, _⟩ | ⟨g', cap, cur, e1, e2, e3, e4, e5, e6, e7⟩
  · cases h2
  · injection e1 with e1 _ ec
    have hle : k * size ≤ n * size := Nat.mul_le_mul_right size hk
    have hle2 : n * size ≤ c * size := Nat.mul_le_mul_right size hc
    subst ec
    refine ⟨cur.toList.take (n * size), ⟨by rw [List.length_take, Array.length_toList, e6]; omega, .inr ⟨g', c, cur, by rw [e1], e2, e3, hc, e5, e6, rfl⟩⟩, ?_⟩
    rw [List.take_take, Nat.min_eq_left hle, e7]
theorem ucells_take (l : List (Int × ByteArray)) (k : Nat) (hk : k ≤ l.length) : (ucells l).take (k * 2) = ucells (l.take k) := by
  have h := ucells_app (l.take k) (l.drop k)
  rw [List.take_append_drop] at h
  have e : (ucells (l.take k)).length = k * 2 := by rw [ucells_len, List.length_take]; omega
  rw [h, ← e, List.take_left]
theorem ucells_drop (l : List (Int × ByteArray)) (k : Nat) (hk : k ≤ l.length) : (ucells l).drop (k * 2) = ucells (l.drop k) := by
  have h := ucells_app (l.take k) (l.drop k)
  rw [List.take_append_drop] at h
  have e : (ucells (l.take k)).length = k * 2 := by rw [ucells_len, List.length_take]; omega
  rw [h, ← e, List.drop_left]
theorem ucells_one (l : List (Int × ByteArray)) : OneCells (ucells l) := by
  intro u hu
  unfold ucells at hu
  obtain ⟨p, _, hp⟩ := List.mem_flatMap.1 hu
  simp at hp
  rcases hp with rfl | rfl <;> rfl
theorem zero_parcel (w : World) : (zeroValue 244).run Tryz.prog w = .ok (.agg #[.int .i64 0, .string ⟨#[]⟩]) w := by kernel_rfl
theorem elemU_ : Elem Tryz.prog 177 244 2 24 := Elem.mk_ (z := .agg #[.int .i64 0, .string ⟨#[]⟩]) Tryz.underlying177 (by kernel_rfl) rfl (by decide)
/-- append within the row's room, whatever lies behind. -/
theorem step_room {w : World} {ops : Array Oper} {o : Oper} {a : Act} {K : Act → World → Prop} {Q : Exit → Act → World → Prop} {E : Prop} {P : Program} (s x : Operand) {t : TypeId} (hgd : o.guard = none)
    (ho : o.op = .call { callee := .builtin .append, args := #[s, x], argTypes := #[t, t] })
    {base : Nat} {e : TypeId} {size bytes : Nat} (hE : Elem P t e size bytes)
    {g n cap : Nat} {xs : List Value} (hs : a.eval s = .slice (some ⟨g, 0, none⟩) n cap) {ad : Addr} {m c : Nat} {news : List Value} (hx : a.eval x = .slice (some ad) m c) (hown : Own w base e size (some ⟨g, 0, none⟩) n cap xs)
    (hl : news.length = m * size) (hnews : ∀ j u, news[j]? = some u → w.cell? (ad.add j) = some u) (h1 : OneCells news) (hroom : n + m ≤ cap)
    (h : ∀ w', Own w' base e size (some ⟨g, 0, none⟩) (n + m) cap (xs ++ news) → Only [g] w w' → K (a.put o.dst (.slice (some ⟨g, 0, none⟩) (n + m) cap)) w') :
    if Region.wanted o (yielded ops a.tmps) = true then Oper.wp P o a w K Q else E := by
  have hw : Region.wanted o (yielded ops a.tmps) = true := by simp [Region.wanted, hgd]
  rw [if_pos hw]
  obtain ⟨ht, ⟨i, z, hi, hz, hsize, hby, hzs⟩, hsz⟩ := hE
  exact wp_append_own_spare w s x t ho base e i size ht hi hsize g n cap xs hs hown ad m c news hx hl hnews h1 hroom fun w' h2 h3 => h w' h2 ((Only.refl _ _).grown h3 (fun g' hg' => .inl (by simp at hg' ⊢; exact hg'.symm)))
set_option maxRecDepth 100000 in
set_option maxHeartbeats 4000000 in
theorem ndel_any (w : World) (B g c : Nat) (u : List (Int × ByteArray)) (h : Own w B 244 2 (some ⟨g, 0, none⟩) u.length c (ucells u)) (i : Nat) (hi : i < u.length) (hn : u.length ≤ 1000) :
    Calls Tryz.prog 169 #[.slice (some ⟨g, 0, none⟩) u.length c, .int .i64 (i : Nat), .int .i64 ((i : Int) + 1)] w
      (fun e w' => e = .returned (.slice (some ⟨g, 0, none⟩) (u.eraseIdx i).length c) ∧ Own w' B 244 2 (some ⟨g, 0, none⟩) (u.eraseIdx i).length c (ucells (u.eraseIdx i)) ∧ Only [g] w w') := by
  have hcap := h.cap_le
  have hcm : c ≤ 9223372036854775807 := by have := h.cap_max; unfold maxLen at this; omega
  have HP := Lib.hid (h.prefix (k := i) (by omega))
  have hlen : (u.eraseIdx i).length = u.length - 1 := List.length_eraseIdx_of_lt hi
  have HE : Hid (ucells (u.eraseIdx i) = (ucells u).take (i * 2) ++ (ucells u).drop ((i + 1) * 2)) := by
    show _ = _
    rw [ucells_take u i (by omega), ucells_drop u (i + 1) (by omega), ← ucells_app, List.eraseIdx_eq_take_drop_succ]
  have HR := Lib.hid (h.reads.cut (k := i + 1) (cap := c) (by omega) hcap)
  have HU : Hid (∀ k, OneCells ((ucells u).drop k)) := fun k x hx => ucells_one u x (List.mem_of_mem_drop hx)
  have k1 : (i : Int) < (u.length : Int) := by omega
  have k2 : (i : Int) + 1 ≤ (u.length : Int) := by omega
  have k3 : (u.length : Int) ≤ (c : Int) := by omega
  have k4 : (i : Int) ≤ (i : Int) + 1 := by omega
  have k5 : (0 : Int) ≤ (i : Int) := by omega
  have k6 : (0 : Int) ≤ (i : Int) + 1 := by omega
  have k7 : ((i : Int) == (i : Int) + 1) = false := by rw [beq_eq_false_iff_ne]; omega
  have k8 : (i : Int) ≤ (c : Int) := by omega
  obtain ⟨ad, hif⟩ : ∃ ad : Addr, (if c = i + 1 then some ⟨g, 0, none⟩ else some ⟨g, (i + 1) * 2, none⟩ : Option Addr) = some ad := by
    by_cases hc : c = i + 1
    · exact ⟨_, if_pos hc⟩
    · exact ⟨_, if_neg hc⟩
  have HNEWS : Hid (∀ j v, ((ucells u).drop ((i + 1) * 2))[j]? = some v → w.cell? (ad.add j) = some v) := fun j v hv => by
    have hr := HR.out
    have e : (if c = i + 1 then some (⟨g, 0, none⟩ : Addr) else (some (⟨g, 0, none⟩ : Addr)).map (·.add ((i + 1) * 2))) = some ad := by
      rw [← hif]
      by_cases hc : c = i + 1
      · rw [if_pos hc, if_pos hc]
      · rw [if_neg hc, if_neg hc]; simp [Addr.add]
    rw [e] at hr
    have hpos : 0 < u.length - (i + 1) := by
      rcases Nat.eq_zero_or_pos (u.length - (i + 1)) with h0 | h0
      · rw [List.drop_eq_nil_of_le (by rw [ucells_len]; omega)] at hv; simp at hv
      · exact h0
    obtain ⟨ad', h1, _, h3⟩ := hr.2 hpos
    injection h1 with h1
    subst h1
    exact h3 j v hv
  have hln : ((ucells u).drop ((i + 1) * 2)).length = (u.length - (i + 1)) * 2 := by rw [List.length_drop, ucells_len, Nat.sub_mul]
  have HLN := Lib.hid hln
  have hroom : i + (u.length - (i + 1)) ≤ c := by omega
  have hsum : i + (u.length - (i + 1)) = u.length - 1 := by omega
  have HSUM := Lib.hid hsum
  have HLEN := Lib.hid hlen
  clear h hln hsum hlen
  go_enter Tryz.func169, Tryz.ntmps169
  have HZ1 : Hid (∀ x ∈ (Value.agg #[Value.int .i64 0, .string ⟨#[]⟩]).cells.toList, x.oneCell' = true) := by
    intro x hx; simp [Value.cells] at hx; rcases hx with rfl | rfl <;> rfl
  obtain ⟨m, hm⟩ : ∃ m, m = u.length - 1 := ⟨_, rfl⟩
  have HM := Lib.hid hm
  rw [← hm] at HSUM
  clear hm
  go_upto_region 5 with (fail)
  go_cut [0] (fun v wx => v = .slice (some ⟨g, 0, none⟩) m c ∧ Hid (Own wx B 244 2 (some ⟨g, 0, none⟩) m c ((ucells u).take (i * 2) ++ (ucells u).drop ((i + 1) * 2))) ∧ Hid (Only [g] w wx))
  case first =>
    go_region_law ((
      refine step_room (base := B) (xs := (ucells u).take (i * 2)) (news := (ucells u).drop ((i + 1) * 2)) (.tmp 22) (.tmp 25) rfl rfl elemU_ rfl rfl (HP.out.drew) HLN.out HNEWS.out (HU.out _) hroom ?_
      intro w8 hO hL
      rw [HSUM.out] at hO ⊢
      have HO := Lib.hid hO
      have HL := Lib.hid (((Only.refl [g] w).drew).trans hL)
      clear hO hL))
    all_goals
      go_wp2_with fail
      go_meet
      case rel => exact ⟨rfl, HO, HL⟩
  case rest =>
    obtain ⟨rfl, HO, HL⟩ := hcut
    have hmu : m < u.length := by rw [HM.out]; omega
    obtain ⟨ys, hys, hyt⟩ := HO.out.longer (n := u.length) (by omega) hcap
    obtain ⟨w2, hcl, hO2, hL2⟩ := clear_own (P := Tryz.prog) (size := 2) (t := 177) (z := .agg #[.int .i64 0, .string ⟨#[]⟩]) Tryz.underlying177 zero_parcel rfl HZ1.out hys m hmu
    rw [hyt, ← HE.out] at hO2
    have HO2 := Lib.hid hO2
    have HL2 := Lib.hid (HL.out.trans hL2)
    have HEL : Hid ((u.eraseIdx i).length = m) := by show _ = _; rw [HLEN.out, HM.out]
    have r0 : (0 : Int) ≤ (m : Int) := by omega
    have r1 : (m : Int) ≤ (u.length : Int) := by omega
    have r2 : (m : Int) ≤ (c : Int) := by omega
    have r3 : ¬ (c = m) := by omega
    clear hO2 hL2 hys hyt HP HNEWS HLN HR HU hif k1 k2 k4 k5 k6 k7 k8 hroom
    go_wp2_with fail
    go_ret
    exact ⟨by rw [HEL.out]; rfl, by rw [HEL.out]; exact HO2.out, HL2.out⟩
end Go.Proofs.YthfbjfocmnikaaaGreatDoor
/- (*net.Net).mail, walked. Conditions: the documents are right. -/
namespace Go.Proofs.YthfbjfocmnikaaaGreatDoor
open Go.RowKit
set_option linter.unusedVariables false
set_option maxRecDepth 100000 in
set_option maxHeartbeats 8000000 in
theorem nmail_any (w : World) (B : Nat) (S : List Nat) (b : Nat) (N : LNet) (ds : List NodeAt) (A1 : Option Addr) (c1 : Nat) (A2 : Option Addr) (c2 : Nat) (h : NetAt w B S b N ds A1 c1 A2 c2) (ok : N.Ok) (e : LEv) (hwf : e.Wf) (hme : LNet.mailB e) :
    Calls Tryz.prog 108 #[.pointer (some ⟨b, 0, none⟩), .agg e.cells] w (fun r w' => r = .returned (errV (N.mailE e)) ∧ NetTo w B S b (N.mail e) w') := by
  have HE0 : errV 0 = .nilIface := rfl
  have HE1 := Lib.hid (errV_ne (show (1 : Int) ≠ 0 by decide))
  have HE4 := Lib.hid (errV_ne (show (4 : Int) ≠ 0 by decide))
  have HB0 : Hid (Below w.heap.size w (w.alloc (.cells e.cells 96))) := (Below.refl _ _).alloc (Nat.le_refl _) _
  have HA0 := Lib.hid (h.below HB0.out)
  have HX0 := Lib.hid (Blk.new w 96 e.cells)
  obtain ⟨x0, x1, x2, x3⟩ := EvBox.of HX0.out
  obtain ⟨⟨hw0, hw1⟩, ⟨ha0, ha1⟩, ⟨hb0, hb1⟩, hc0, hc1⟩ := hwf
  have q1 := HA0.out.cells.2
  have hu := ok.under
  have HTS : Hid (∀ W, Below w.heap.size w W → NetTo w B S b N W) := fun W hW => h.self_ hW
  have HBN : Hid (∀ n, Below w.heap.size w ((w.alloc (.cells e.cells 96)).drewN n)) := fun n => below_drewN HB0.out n
  by_cases hnm : N.noMail e.a
  · have HR : Hid (N.mailE e = 1 ∧ N.mail e = N) := ⟨by unfold LNet.mailE; rw [if_pos hnm], by unfold LNet.mail; rw [if_pos hnm]⟩
    rw [HR.out.1, HR.out.2, HE1.out]
    unfold LNet.noMail at hnm
    obtain ⟨ew, ea, eb, ec⟩ := e
    unfold LEv.cells at *
    simp only at *
    clear HX0 HR hme ok h HA0
    by_cases hneg : ea < 0
    · have g1 : decide (ea < 0) = true := decide_eq_true hneg
      go_enter Tryz.func108, Tryz.ntmps108
      go_wp2_with fail
      go_quiet (fail)
      go_wp2_with fail
      go_ret
      exact ⟨rfl, HTS.out _ (HBN.out _)⟩
    · have g1 : decide (ea < 0) = false := decide_eq_false hneg
      have g2 : decide (ea ≥ (N.under.length : Int)) = true := decide_eq_true (by omega)
      have g3 : ea ≥ (N.under.length : Int) := by omega
      go_enter Tryz.func108, Tryz.ntmps108
      go_wp2_with fail
      go_quiet (fail)
      go_wp2_with fail
      go_ret
      exact ⟨rfl, HTS.out _ (HBN.out _)⟩
  obtain ⟨hi, hat, hz⟩ := LNet.mail_get hnm
  obtain ⟨ew, ea, eb, ec⟩ := e
  simp only at hi hat hz ha0 ha1 hw0 hw1
  obtain ⟨i, rfl⟩ : ∃ i : Nat, ea = (i : Int) := ⟨ea.toNat, by omega⟩
  simp only [Int.toNat_natCast] at hi hat
  obtain ⟨g, rfl, hm0, hm1⟩ := HA0.out.mail hi
  obtain ⟨tn, hto⟩ : ∃ tn, tn = N.under[i].1 := ⟨_, rfl⟩
  obtain ⟨dat, hdat⟩ : ∃ d, d = N.under[i].2 := ⟨_, rfl⟩
  rw [← hto] at hm0
  rw [← hdat] at hm1
  have HTO := Lib.hid hto
  have HDAT := Lib.hid hdat
  clear hto hdat
  have g1 : decide ((i : Int) < 0) = false := decide_eq_false (by omega)
  have g2 : decide ((i : Int) ≥ (N.under.length : Int)) = false := decide_eq_false (by omega)
  have k1 : (i : Int) < (N.under.length : Int) := by omega
  have k0 : (0 : Int) ≤ (i : Int) := by omega
  unfold LEv.cells at *
  simp only at *
  have HBW0 : Hid (∀ W, Below (w.heap.size + 1) (w.alloc (.cells #[.int .i64 ew, .int .i64 i, .int .i64 eb, .int .i64 ec] 96)) W → Below w.heap.size w W) := fun W hW => HB0.out.trans (hW.mono (by omega))
  go_enter Tryz.func108, Tryz.ntmps108
  go_wp2_with fail
  go_quiet (fail)
  go_upto_region 3 with (fail)
  go_cut [5] (fun v wx => v = .pointer (some ⟨w.heap.size + 1, 0, none⟩) ∧ Hid (Blk wx (w.heap.size + 1) 244 #[.int .i64 tn, .string dat]) ∧ Hid (Below (w.heap.size + 1) (w.alloc (.cells #[.int .i64 ew, .int .i64 i, .int .i64 eb, .int .i64 ec] 96)) wx))
  case first =>
    have HBX : Hid (Below (w.heap.size + 1) (w.alloc (.cells #[.int .i64 ew, .int .i64 i, .int .i64 eb, .int .i64 ec] 96)) (((w.alloc (.cells #[.int .i64 ew, .int .i64 i, .int .i64 eb, .int .i64 ec] 96)).drewN (nq + 1)).alloc (.cells #[.int .i64 0, .string ⟨#[]⟩] 244))) := by
      have h1 := (below_drewN (Below.refl (w.alloc (.cells #[.int .i64 ew, .int .i64 i, .int .i64 eb, .int .i64 ec] 96)).heap.size (w.alloc (.cells #[.int .i64 ew, .int .i64 i, .int .i64 eb, .int .i64 ec] 96))) (nq + 1)).alloc (Nat.le_refl _) (.cells #[.int .i64 0, .string ⟨#[]⟩] 244)
      have hs : (w.alloc (.cells #[.int .i64 ew, .int .i64 i, .int .i64 eb, .int .i64 ec] 96)).heap.size = w.heap.size + 1 := by simp
      rw [hs] at h1
      exact h1
    have hgl : g < w.heap.size + 1 := by have := (HA0.out.urow.lt g (by simp [ob])).2; simpa using this
    have hbl : b < w.heap.size + 1 := by have := HA0.out.blk.lt; simpa using this
    have z0 : (((w.alloc (.cells #[.int .i64 ew, .int .i64 i, .int .i64 eb, .int .i64 ec] 96)).drewN (nq + 1)).alloc (.cells #[.int .i64 0, .string ⟨#[]⟩] 244)).cell? ⟨b, 1, none⟩ = some (.slice (some ⟨g, 0, none⟩) N.under.length c2) := (HBX.out.cell (p := ⟨b, 1, none⟩) hbl).trans q1
    have z1 : (((w.alloc (.cells #[.int .i64 ew, .int .i64 i, .int .i64 eb, .int .i64 ec] 96)).drewN (nq + 1)).alloc (.cells #[.int .i64 0, .string ⟨#[]⟩] 244)).cell? ⟨w.heap.size, 1, none⟩ = some (.int .i64 i) := (HBX.out.cell (p := ⟨w.heap.size, 1, none⟩) (by simp)).trans x1
    have z2 : (((w.alloc (.cells #[.int .i64 ew, .int .i64 i, .int .i64 eb, .int .i64 ec] 96)).drewN (nq + 1)).alloc (.cells #[.int .i64 0, .string ⟨#[]⟩] 244)).cell? ⟨g, i * 2, none⟩ = some (.int .i64 tn) := (HBX.out.cell (p := ⟨g, i * 2, none⟩) hgl).trans hm0
    have z3 : (((w.alloc (.cells #[.int .i64 ew, .int .i64 i, .int .i64 eb, .int .i64 ec] 96)).drewN (nq + 1)).alloc (.cells #[.int .i64 0, .string ⟨#[]⟩] 244)).cell? ⟨g, i * 2 + 1, none⟩ = some (.string dat) := (HBX.out.cell (p := ⟨g, i * 2 + 1, none⟩) hgl).trans hm1
    have HP0 : Hid (Blk (((w.alloc (.cells #[.int .i64 ew, .int .i64 i, .int .i64 eb, .int .i64 ec] 96)).drewN (nq + 1)).alloc (.cells #[.int .i64 0, .string ⟨#[]⟩] 244)) (w.heap.size + 1) 244 #[.int .i64 0, .string ⟨#[]⟩]) := by
      have h1 := Blk.new ((w.alloc (.cells #[.int .i64 ew, .int .i64 i, .int .i64 eb, .int .i64 ec] 96)).drewN (nq + 1)) 244 #[.int .i64 0, .string ⟨#[]⟩]
      have hs : ((w.alloc (.cells #[.int .i64 ew, .int .i64 i, .int .i64 eb, .int .i64 ec] 96)).drewN (nq + 1)).heap.size = w.heap.size + 1 := by simp [World.drewN]
      rw [hs] at h1
      exact h1
    have z4 : (((w.alloc (.cells #[.int .i64 ew, .int .i64 i, .int .i64 eb, .int .i64 ec] 96)).drewN (nq + 1)).alloc (.cells #[.int .i64 0, .string ⟨#[]⟩] 244)).cell? ⟨w.heap.size + 1, 0, none⟩ = some (.int .i64 0) := by rw [HP0.out.cell]; rfl
    have z5 : (((w.alloc (.cells #[.int .i64 ew, .int .i64 i, .int .i64 eb, .int .i64 ec] 96)).drewN (nq + 1)).alloc (.cells #[.int .i64 0, .string ⟨#[]⟩] 244)).cell? ⟨w.heap.size + 1, 1, none⟩ = some (.string ⟨#[]⟩) := by rw [HP0.out.cell]; rfl
    have z6 := HP0.out.frozen 0
    have z7 := HP0.out.frozen 1
    clear hgl hbl
    go_region
    have HFIN : Hid (∀ cs, Blk (((w.alloc (.cells #[.int .i64 ew, .int .i64 i, .int .i64 eb, .int .i64 ec] 96)).drewN (nq + 1)).alloc (.cells cs 244)) (w.heap.size + 1) 244 cs) := fun cs => by
      have h1 := Blk.new ((w.alloc (.cells #[.int .i64 ew, .int .i64 i, .int .i64 eb, .int .i64 ec] 96)).drewN (nq + 1)) 244 cs
      have hs : ((w.alloc (.cells #[.int .i64 ew, .int .i64 i, .int .i64 eb, .int .i64 ec] 96)).drewN (nq + 1)).heap.size = w.heap.size + 1 := by simp [World.drewN]
      rw [hs] at h1
      exact h1
    have HFB : Hid (∀ o, Below (w.heap.size + 1) (w.alloc (.cells #[.int .i64 ew, .int .i64 i, .int .i64 eb, .int .i64 ec] 96)) (((w.alloc (.cells #[.int .i64 ew, .int .i64 i, .int .i64 eb, .int .i64 ec] 96)).drewN (nq + 1)).alloc o)) := fun o => by
      have h1 := (below_drewN (Below.refl (w.alloc (.cells #[.int .i64 ew, .int .i64 i, .int .i64 eb, .int .i64 ec] 96)).heap.size (w.alloc (.cells #[.int .i64 ew, .int .i64 i, .int .i64 eb, .int .i64 ec] 96))) (nq + 1)).alloc (Nat.le_refl _) o
      have hs : (w.alloc (.cells #[.int .i64 ew, .int .i64 i, .int .i64 eb, .int .i64 ec] 96)).heap.size = w.heap.size + 1 := by simp
      rw [hs] at h1
      exact h1
    go_wp2_with fail
    go_meet
    case rel => exact ⟨rfl, HFIN.out _, HFB.out _⟩
  case rest =>
    obtain ⟨rfl, HPB, HBC⟩ := hcut
    have HBCw := Lib.hid (HBW0.out _ HBC.out)
    have HAc := Lib.hid (h.below HBCw.out)
    have y0 : wc.cell? ⟨w.heap.size, 0, none⟩ = some (.int .i64 ew) := (HBC.out.cell (p := ⟨w.heap.size, 0, none⟩) (by simp)).trans x0
    have y1 : wc.cell? ⟨w.heap.size, 1, none⟩ = some (.int .i64 i) := (HBC.out.cell (p := ⟨w.heap.size, 1, none⟩) (by simp)).trans x1
    have p0 : wc.cell? ⟨w.heap.size + 1, 0, none⟩ = some (.int .i64 tn) := by rw [HPB.out.cell]; rfl
    have p1 : wc.cell? ⟨w.heap.size + 1, 1, none⟩ = some (.string dat) := by rw [HPB.out.cell]; rfl
    have n1 : wc.cell? ⟨b, 1, none⟩ = some (.slice (some ⟨g, 0, none⟩) N.under.length c2) := HAc.out.cells.2
    have hszc := HBCw.out.size
    have hbs := h.size
    have HATT : Hid (N.mailAt i = (tn, dat)) := by show _ = _; rw [hat, HTO.out, HDAT.out]
    have HGOES : Hid (0 ≤ tn ∧ tn < (N.docs.length : Int)) := by have := ok.goes _ (List.getElem_mem hi); rw [← HTO.out] at this; exact this
    have HNM := Lib.hid hnm
    have HH := Lib.hid h
    have HOK := Lib.hid ok
    clear HA0 HX0 x0 x1 x2 x3 q1 hm0 hm1 hnm h ok hat HBN g1 g2
    unfold LNet.mailB at hme
    simp only at hme
    rcases hme with rfl | rfl | rfl
    · have HR : Hid (N.mailE ⟨4, i, eb, ec⟩ = (N.doc tn.toNat).openE dat ∧ N.mail ⟨4, i, eb, ec⟩ = ⟨N.docs.set tn.toNat ((N.doc tn.toNat).openR dat), N.under.eraseIdx i⟩) := ⟨by unfold LNet.mailE; rw [if_neg HNM.out, if_neg (by simp), if_neg (by simp)]; simp only [Int.toNat_natCast]; rw [HATT.out], by unfold LNet.mail; rw [if_neg HNM.out, if_neg (by simp), if_neg (by simp)]; simp only [Int.toNat_natCast]; rw [HATT.out]⟩
      have HDEL : Hid (∀ W, Below wc.heap.size wc W → Calls Tryz.prog 169 #[.slice (some ⟨g, 0, none⟩) N.under.length c2, .int .i64 i, .int .i64 ((i : Int) + 1)] W
          (fun r w' => r = .returned (.slice (some ⟨g, 0, none⟩) (N.under.eraseIdx i).length c2) ∧ Own w' B 244 2 (some ⟨g, 0, none⟩) (N.under.eraseIdx i).length c2 (ucells (N.under.eraseIdx i)) ∧ Only [g] W w')) := fun W hW => ndel_any W B g c2 N.under ((HAc.out.below hW).urow) i hi (by omega)
      have HBB : Hid (Below wc.heap.size wc wc) := Below.refl _ _
      have HBG : Hid (b ≠ g) := fun hh => HAc.out.b2 (by simp [ob, hh])
      have q3 : IntKind.i64.wrap ((i : Int) + 1) = (i : Int) + 1 := IntWalk.i64_in _ (by omega)
      have hul : w.heap.size + 2 ≤ wc.heap.size := by have := HPB.out.lt; omega
      have HBLT : Hid (b < w.heap.size ∧ g < w.heap.size) := ⟨HH.out.blk.lt, (HH.out.urow.lt g (by simp [ob])).2⟩
      go_upto_region 9 with (fail)
      go_cut [] (fun wx => ∃ S' c3, Hid (NetAt wx B S' b ⟨N.docs, N.under.eraseIdx i⟩ ds A1 c1 (some ⟨g, 0, none⟩) c3) ∧ Hid (Only S w wx) ∧ Hid (∀ g ∈ S', g ∈ S ∨ w.heap.size ≤ g) ∧ Hid (Blk wx (w.heap.size + 1) 244 #[.int .i64 tn, .string dat]) ∧ Hid (wx.cell? ⟨w.heap.size, 0, none⟩ = some (.int .i64 4)))
      case first =>
        go_region_law ((go_simp; go_at_call 169; refine (HDEL.out _ (by first | exact HBB.out | exact below_drewN HBB.out _ | exact HBB.out.drew)).mono ?_; rintro r w9 ⟨rfl, hO, hL⟩; have hL2 : Only [g] wc w9 := ⟨hL.os, hL.tape, hL.output, hL.size, hL.block⟩; have hb9 := hL2.blk HAc.out.blk (by simp; exact HBG.out); have m1 : w9.cell? ⟨b, 1, none⟩ = some (.slice (some ⟨g, 0, none⟩) N.under.length c2) := (by rw [hb9.cell]; rfl); have f1 := hb9.frozen 1; have HB9 := Lib.hid hb9; have HO9 := Lib.hid hO; have HL9 := Lib.hid hL2; clear hO hL hL2 hb9))
        all_goals
          have hset : Only [b] w9 (w9.setCell ⟨b, 1, none⟩ (.slice (some ⟨g, 0, none⟩) (N.under.eraseIdx i).length c2)) := (Only.refl _ _).setCell (.inl (by simp)) _
          have hTT : Only (b :: ob (some ⟨g, 0, none⟩)) wc (w9.setCell ⟨b, 1, none⟩ (.slice (some ⟨g, 0, none⟩) (N.under.eraseIdx i).length c2)) := (HL9.out.mono (fun k hk => by simp at hk; subst hk; exact .inl (by simp [ob]))).trans (hset.mono (fun k hk => by simp at hk; exact .inl (by simp [hk])))
          obtain ⟨S', t1, t2, t3⟩ := HAc.out.mailsAt (u := N.under.eraseIdx i) (A3 := some ⟨g, 0, none⟩) (c3 := c2) hTT (HB9.out.set_ 1 _) (HO9.out.only hset (fun k hk hm => by simp [ob] at hk hm; subst hk; exact HBG.out hm.symm)) (fun k hk => .inl hk)
          have T1 := Lib.hid t1
          have T2 := Lib.hid ((Only.of_below HBCw.out).trans t2)
          have T3 : Hid (∀ g ∈ S', g ∈ S ∨ w.heap.size ≤ g) := fun k hk => (t3 k hk).imp id (fun hh => by omega)
          have T4 : Hid (Blk (w9.setCell ⟨b, 1, none⟩ (.slice (some ⟨g, 0, none⟩) (N.under.eraseIdx i).length c2)) (w.heap.size + 1) 244 #[.int .i64 tn, .string dat]) := hTT.blk HPB.out (by have := HBLT.out; simp [ob]; omega)
          have T5 : Hid ((w9.setCell ⟨b, 1, none⟩ (.slice (some ⟨g, 0, none⟩) (N.under.eraseIdx i).length c2)).cell? ⟨w.heap.size, 0, none⟩ = some (.int .i64 4)) := (hTT.cell (p := ⟨w.heap.size, 0, none⟩) (by simp; omega) (by have := HBLT.out; simp [ob]; omega)).trans y0
          clear hset hTT t1 t2 t3
          go_wp2_with fail
          go_meet
          case rel => exact ⟨S', c2, T1, T2, T3, T4, T5⟩
      case rest =>
        obtain ⟨S2, c3, HN2, HO2, HS2, HP2, HX2⟩ := hcut
        have y0 := HX2.out
        obtain ⟨t, rfl⟩ : ∃ t : Nat, tn = (t : Int) := ⟨tn.toNat, by have := HGOES.out.1; omega⟩
        have ht : t < ds.length := by rw [HH.out.len]; have := HGOES.out.2; omega
        simp only [Int.toNat_natCast] at HR
        obtain ⟨ga, rfl, hpt⟩ := HN2.out.ptr ht
        have c0 : wc.cell? ⟨b, 0, none⟩ = some (.slice (some ⟨ga, 0, none⟩) ds.length c1) := HN2.out.cells.1
        have e0 : wc.cell? ⟨w.heap.size + 1, 0, none⟩ = some (.int .i64 (t : Int)) := by rw [HP2.out.cell]; rfl
        have e1 : wc.cell? ⟨w.heap.size + 1, 1, none⟩ = some (.string dat) := by rw [HP2.out.cell]; rfl
        have t1 : (t : Int) < (ds.length : Int) := by omega
        have t0 : (0 : Int) ≤ (t : Int) := by omega
        have HOP : Hid (∀ W, Below wc.heap.size wc W → Calls Tryz.prog 170 #[.pointer (some ⟨ds[t].b, 0, none⟩), .string dat] W (fun r w' => r = .returned (.tuple #[.int .i64 ((N.doc t).openN dat), errV ((N.doc t).openE dat)]) ∧ NetTo w B S b ⟨N.docs.set t ((N.doc t).openR dat), N.under.eraseIdx i⟩ w' ∧
            w'.cell? ⟨b, 0, none⟩ = some (.slice (some ⟨ga, 0, none⟩) ds.length c1) ∧ w'.cell? ⟨ga, t, none⟩ = some (.pointer (some ⟨ds[t].b, 0, none⟩)) ∧ w'.cell? ⟨w.heap.size + 1, 0, none⟩ = some (.int .i64 (t : Int)) ∧ w'.cell? ⟨w.heap.size + 1, 1, none⟩ = some (.string dat))) := fun W hW => by
          have hA := HN2.out.below hW
          have hd : (⟨N.docs, N.under.eraseIdx i⟩ : LNet).doc t = N.doc t := rfl
          have hD := hA.nodes t ht
          rw [hd] at hD
          refine (open_any W B _ _ _ _ hD (HOK.out.doc t) dat).mono ?_
          rintro r w' ⟨rfl, hto⟩
          obtain ⟨S', ds', k1, k2, k3⟩ := hA.turn ht hto
          have hS := HN2.out.subs _ (List.getElem_mem ht)
          have hold : ∀ k ∈ ds[t].S, k < w.heap.size := fun k hk => (HH.out.own k (HH.out.subs _ (List.getElem_mem ht) k hk)).2
          have hpl : w.heap.size + 1 < wc.heap.size := HP2.out.lt
          have hgl : ga < wc.heap.size := (HN2.out.row.lt ga (by simp [ob])).2
          have hzz := hW.size
          refine ⟨rfl, ⟨S', ⟨_, _, _, _, _, k1⟩, ?_, fun k hk => ?_⟩, by have h9 := k1.cells.1; rw [k1.len] at h9; simp only [List.length_set] at h9; have h8 := HN2.out.len; simp only at h8; rw [← h8] at h9; exact h9, ?_, ?_, ?_⟩
          · exact (HO2.out.trans (Only.of_below hW)).trans_new k2 (fun k hk => HS2.out k (hS k hk))
          · rcases k3 k hk with h5 | h5
            · exact HS2.out k h5
            · have := hW.size; have := hszc; have := HO2.out.size; exact .inr (by omega)
          · exact ((k2.cell (p := ⟨ga, t, none⟩) (by simp only; omega) (fun hm => (HN2.out.far _ (List.getElem_mem ht) ga hm).2.1 (by simp [ob]))).trans (hW.cell (p := ⟨ga, t, none⟩) hgl)).trans hpt
          · exact ((k2.cell (p := ⟨w.heap.size + 1, 0, none⟩) (by simp only; omega) (fun hm => by have := hold _ hm; simp only at this; omega)).trans (hW.cell (p := ⟨w.heap.size + 1, 0, none⟩) hpl)).trans e0
          · exact ((k2.cell (p := ⟨w.heap.size + 1, 1, none⟩) (by simp only; omega) (fun hm => by have := hold _ hm; simp only at this; omega)).trans (hW.cell (p := ⟨w.heap.size + 1, 1, none⟩) hpl)).trans e1
        have HBB2 : Hid (Below wc.heap.size wc wc) := Below.refl _ _
        generalize ds[t].b = pt at *
        go_wp2_with fail
        go_region_held3 (fun W' => W'.cell? ⟨b, 0, none⟩ = some (.slice (some ⟨ga, 0, none⟩) ds.length c1) ∧ W'.cell? ⟨ga, t, none⟩ = some (.pointer (some ⟨pt, 0, none⟩)) ∧ W'.cell? ⟨w.heap.size + 1, 0, none⟩ = some (.int .i64 (t : Int)) ∧ W'.cell? ⟨w.heap.size + 1, 1, none⟩ = some (.string dat)) (first | go_keep | (refine ⟨?_, ?_, ?_, ?_⟩ <;> assumption))
          (first
            | (go_at_call 170; refine (HOP.out _ (by first | exact HBB2.out | exact below_drewN HBB2.out _ | exact HBB2.out.drew)).mono ?_; rintro r w5 ⟨rfl, hn5, h50, h51, h52, h53⟩
               have HN5 := Lib.hid hn5
               clear hn5 c0 hpt e0 e1))
        all_goals
          go_wp2_with fail
          go_ret
          rw [HR.out.1, HR.out.2]
          exact ⟨rfl, HN5.out⟩
    · have HR : Hid (N.mailE ⟨5, i, eb, ec⟩ = 0 ∧ N.mail ⟨5, i, eb, ec⟩ = ⟨N.docs, N.under.eraseIdx i⟩) := ⟨by unfold LNet.mailE; rw [if_neg HNM.out, if_neg (by simp), if_pos rfl], by unfold LNet.mail; rw [if_neg HNM.out, if_neg (by simp), if_pos rfl]; simp only [Int.toNat_natCast]⟩
      have HDEL : Hid (∀ W, Below wc.heap.size wc W → Calls Tryz.prog 169 #[.slice (some ⟨g, 0, none⟩) N.under.length c2, .int .i64 i, .int .i64 ((i : Int) + 1)] W
          (fun r w' => r = .returned (.slice (some ⟨g, 0, none⟩) (N.under.eraseIdx i).length c2) ∧ Own w' B 244 2 (some ⟨g, 0, none⟩) (N.under.eraseIdx i).length c2 (ucells (N.under.eraseIdx i)) ∧ Only [g] W w')) := fun W hW => ndel_any W B g c2 N.under ((HAc.out.below hW).urow) i hi (by omega)
      have HBB : Hid (Below wc.heap.size wc wc) := Below.refl _ _
      have HBG : Hid (b ≠ g) := fun hh => HAc.out.b2 (by simp [ob, hh])
      have q3 : IntKind.i64.wrap ((i : Int) + 1) = (i : Int) + 1 := IntWalk.i64_in _ (by omega)
      have hul : w.heap.size + 2 ≤ wc.heap.size := by have := HPB.out.lt; omega
      have HBLT : Hid (b < w.heap.size ∧ g < w.heap.size) := ⟨HH.out.blk.lt, (HH.out.urow.lt g (by simp [ob])).2⟩
      go_upto_region 9 with (fail)
      go_cut [] (fun wx => ∃ S' c3, Hid (NetAt wx B S' b ⟨N.docs, N.under.eraseIdx i⟩ ds A1 c1 (some ⟨g, 0, none⟩) c3) ∧ Hid (Only S w wx) ∧ Hid (∀ g ∈ S', g ∈ S ∨ w.heap.size ≤ g) ∧ Hid (Blk wx (w.heap.size + 1) 244 #[.int .i64 tn, .string dat]) ∧ Hid (wx.cell? ⟨w.heap.size, 0, none⟩ = some (.int .i64 5)))
      case first =>
        go_region_law ((go_simp; go_at_call 169; refine (HDEL.out _ (by first | exact HBB.out | exact below_drewN HBB.out _ | exact HBB.out.drew)).mono ?_; rintro r w9 ⟨rfl, hO, hL⟩; have hL2 : Only [g] wc w9 := ⟨hL.os, hL.tape, hL.output, hL.size, hL.block⟩; have hb9 := hL2.blk HAc.out.blk (by simp; exact HBG.out); have m1 : w9.cell? ⟨b, 1, none⟩ = some (.slice (some ⟨g, 0, none⟩) N.under.length c2) := (by rw [hb9.cell]; rfl); have f1 := hb9.frozen 1; have HB9 := Lib.hid hb9; have HO9 := Lib.hid hO; have HL9 := Lib.hid hL2; clear hO hL hL2 hb9))
        all_goals
          have hset : Only [b] w9 (w9.setCell ⟨b, 1, none⟩ (.slice (some ⟨g, 0, none⟩) (N.under.eraseIdx i).length c2)) := (Only.refl _ _).setCell (.inl (by simp)) _
          have hTT : Only (b :: ob (some ⟨g, 0, none⟩)) wc (w9.setCell ⟨b, 1, none⟩ (.slice (some ⟨g, 0, none⟩) (N.under.eraseIdx i).length c2)) := (HL9.out.mono (fun k hk => by simp at hk; subst hk; exact .inl (by simp [ob]))).trans (hset.mono (fun k hk => by simp at hk; exact .inl (by simp [hk])))
          obtain ⟨S', t1, t2, t3⟩ := HAc.out.mailsAt (u := N.under.eraseIdx i) (A3 := some ⟨g, 0, none⟩) (c3 := c2) hTT (HB9.out.set_ 1 _) (HO9.out.only hset (fun k hk hm => by simp [ob] at hk hm; subst hk; exact HBG.out hm.symm)) (fun k hk => .inl hk)
          have T1 := Lib.hid t1
          have T2 := Lib.hid ((Only.of_below HBCw.out).trans t2)
          have T3 : Hid (∀ g ∈ S', g ∈ S ∨ w.heap.size ≤ g) := fun k hk => (t3 k hk).imp id (fun hh => by omega)
          have T4 : Hid (Blk (w9.setCell ⟨b, 1, none⟩ (.slice (some ⟨g, 0, none⟩) (N.under.eraseIdx i).length c2)) (w.heap.size + 1) 244 #[.int .i64 tn, .string dat]) := hTT.blk HPB.out (by have := HBLT.out; simp [ob]; omega)
          have T5 : Hid ((w9.setCell ⟨b, 1, none⟩ (.slice (some ⟨g, 0, none⟩) (N.under.eraseIdx i).length c2)).cell? ⟨w.heap.size, 0, none⟩ = some (.int .i64 5)) := (hTT.cell (p := ⟨w.heap.size, 0, none⟩) (by simp; omega) (by have := HBLT.out; simp [ob]; omega)).trans y0
          clear hset hTT t1 t2 t3
          go_wp2_with fail
          go_meet
          case rel => exact ⟨S', c2, T1, T2, T3, T4, T5⟩
      case rest =>
        obtain ⟨S2, c3, HN2, HO2, HS2, HP2, HX2⟩ := hcut
        have y0 := HX2.out
        go_wp2_with fail
        go_ret
        rw [HR.out.1, HR.out.2, HE0]
        exact ⟨rfl, S2, ⟨_, _, _, _, _, HN2.out⟩, HO2.out, HS2.out⟩
    · by_cases hfull : 100 ≤ N.under.length
      · have HR : Hid (N.mailE ⟨6, i, eb, ec⟩ = 4 ∧ N.mail ⟨6, i, eb, ec⟩ = N) := ⟨by unfold LNet.mailE; rw [if_neg HNM.out, if_pos rfl, if_pos hfull], by unfold LNet.mail; rw [if_neg HNM.out, if_pos rfl, if_pos hfull]⟩
        have g5 : (N.under.length : Int) ≥ 100 := by omega
        have HFIN := Lib.hid (HTS.out _ HBCw.out)
        clear hfull
        go_wp2_with fail
        go_ret
        rw [HR.out.1, HR.out.2, HE4.out]
        exact ⟨rfl, HFIN.out⟩
      · have HR : Hid (N.mailE ⟨6, i, eb, ec⟩ = 0 ∧ N.mail ⟨6, i, eb, ec⟩ = ⟨N.docs, N.under ++ [(tn, dat)]⟩) := ⟨by unfold LNet.mailE; rw [if_neg HNM.out, if_pos rfl, if_neg hfull], by unfold LNet.mail; rw [if_neg HNM.out, if_pos rfl, if_neg hfull]; simp only [Int.toNat_natCast]; rw [HATT.out]⟩
        have g5 : ¬ (N.under.length : Int) ≥ 100 := by omega
        have HFIT : Hid (Fits (N.under.length + 1) 24) := Fits.of_small (by omega) (by decide)
        have HONE : Hid (OneCells [Value.int .i64 tn, .string dat]) := by
          intro u hu; simp at hu; rcases hu with rfl | rfl <;> rfl
        have n1a : (wc.alloc (.cells #[.int .i64 tn, .string dat] 244)).cell? ⟨b, 1, none⟩ = some (.slice (some ⟨g, 0, none⟩) N.under.length c2) := by rw [(HAc.out.blk.alloc _).cell]; rfl
        clear hfull
        go_wp2_with fail
        go_region_law ((
          refine step_app (base := B) (xs := ucells N.under) _ (.tmp 44) (.tmp 46) rfl rfl elemU_ rfl rfl (by first | exact (HAc.out.urow.drew).alloc _ | exact HAc.out.urow.alloc _) (Reads.row _ 244 #[.int .i64 tn, .string dat]) HONE.out HFIT.out (by simp; omega) ?_
          intro V8 cV w8 hO hL hg
          have hb8 := hL.blk (by first | exact (HAc.out.blk.drew).alloc _ | exact HAc.out.blk.alloc _) HAc.out.b2
          have m1 : w8.cell? ⟨b, 1, none⟩ = some (.slice (some ⟨g, 0, none⟩) N.under.length c2) := by { rw [hb8.cell]; rfl }
          have f1 := hb8.frozen 1
          have HPU := Lib.hid (HAc.out.push (by first | exact (Below.refl _ _).drew.alloc (Nat.le_refl _) _ | exact (Below.refl _ _).alloc (Nat.le_refl _) _) hO hL hg)
          clear hO hL hg hb8))
        all_goals
          go_wp2_with fail
          go_ret
          rw [HR.out.1, HR.out.2, HE0]
          refine ⟨rfl, ?_⟩
          obtain ⟨S', t1, t2, t3⟩ := HPU.out
          exact ⟨S', t1, (Only.of_below HBCw.out).trans t2, fun g hg => by
            rcases t3 g hg with h5 | h5
            · exact .inl h5
            · exact .inr (by omega)⟩
end Go.Proofs.YthfbjfocmnikaaaGreatDoor
/- (*net.Net).send, walked. Conditions: the documents are right. -/
namespace Go.Proofs.YthfbjfocmnikaaaGreatDoor
open Go.RowKit
set_option linter.unusedVariables false
theorem LDoc.parc_of {a b : LDoc} (ha : a.Ok) (hb : b.Ok) : a.parcE b.known = 0 ∧ a.parcR b.known = a.parc b.known := by
  have hv := hb.known
  have hl : (lacksR a.ops b.known).length ≤ a.ops.length := List.length_filter_le _ _
  have hf := ha.few
  have hp : packErr (lacksR a.ops b.known) = 0 := by
    unfold packErr
    rw [if_neg (by omega)]
    exact opsErr_of (fun o ho => (ha.ops o (List.mem_filter.1 ho).1).1)
  exact ⟨by unfold LDoc.parcE; rw [if_neg (by simp [hv]), hp], by unfold LDoc.parcR; rw [if_neg (by simp [hv])]; rfl⟩
set_option maxRecDepth 100000 in
set_option maxHeartbeats 8000000 in
theorem nsend_any (w : World) (B : Nat) (S : List Nat) (b : Nat) (N : LNet) (ds : List NodeAt) (A1 : Option Addr) (c1 : Nat) (A2 : Option Addr) (c2 : Nat) (h : NetAt w B S b N ds A1 c1 A2 c2) (ok : N.Ok) (i j : Int) :
    Calls Tryz.prog 107 #[.pointer (some ⟨b, 0, none⟩), .int .i64 i, .int .i64 j] w (fun r w' => r = .returned (errV (N.sendE i j)) ∧ NetTo w B S b (N.send i j) w') := by
  have HE0 : errV 0 = .nilIface := rfl
  have HE1 := Lib.hid (errV_ne (show (1 : Int) ≠ 0 by decide))
  have HE3 := Lib.hid (errV_ne (show (3 : Int) ≠ 0 by decide))
  have HE4 := Lib.hid (errV_ne (show (4 : Int) ≠ 0 by decide))
  have HN1 := Lib.hid (nnode_any w B S b N ds A1 c1 A2 c2 h i)
  have HN2 := Lib.hid (nnode_any w B S b N ds A1 c1 A2 c2 h j)
  have HT := Lib.hid (h.self_ (Below.refl _ _))
  cases hi : N.nodeB i with
  | false =>
    have hs : N.sendE i j = 1 := by unfold LNet.sendE; rw [if_pos (.inl hi)]
    have hs2 : N.send i j = N := by unfold LNet.send; rw [if_pos (by omega)]
    rw [hs, hs2, HE1.out]
    rw [hi] at HN1
    clear h hs hs2 hi ok
    go_enter Tryz.func107, Tryz.ntmps107
    go_wp2_with fail
    refine HN1.out.mono ?_
    rintro r w' ⟨rfl, hw⟩
    obtain rfl := hw.symm
    go_wp2_with fail
    go_ret
    exact ⟨rfl, HT.out⟩
  | true =>
  rw [hi] at HN1
  cases hj : N.nodeB j with
  | false =>
    have hs : N.sendE i j = 1 := by unfold LNet.sendE; rw [if_pos (.inr hj)]
    have hs2 : N.send i j = N := by unfold LNet.send; rw [if_pos (by omega)]
    rw [hs, hs2, HE1.out]
    rw [hj] at HN2
    clear h hs hs2 hi hj ok
    go_enter Tryz.func107, Tryz.ntmps107
    go_wp2_with fail
    refine HN1.out.mono ?_
    rintro r w' ⟨rfl, hw⟩
    obtain rfl := hw.symm
    go_wp2_with fail
    refine HN2.out.mono ?_
    rintro r w' ⟨rfl, hw⟩
    obtain rfl := hw.symm
    go_wp2_with fail
    go_ret
    exact ⟨rfl, HT.out⟩
  | true =>
  rw [hj] at HN2
  obtain ⟨i0, i1⟩ := LNet.nodeB_iff.1 hi
  obtain ⟨j0, j1⟩ := LNet.nodeB_iff.1 hj
  by_cases hij : i = j
  · have hs : N.sendE i j = 3 := by unfold LNet.sendE; rw [if_neg (by rw [hi, hj]; simp), if_pos hij]
    have hs2 : N.send i j = N := by unfold LNet.send; rw [if_pos (by omega)]
    rw [hs, hs2, HE3.out]
    have g1 : (i == j) = true := by simp [hij]
    clear h hs hs2 hi hj ok hij i0 i1 j0 j1
    go_enter Tryz.func107, Tryz.ntmps107
    go_wp2_with fail
    refine HN1.out.mono ?_
    rintro r w' ⟨rfl, hw⟩
    obtain rfl := hw.symm
    go_wp2_with fail
    refine HN2.out.mono ?_
    rintro r w' ⟨rfl, hw⟩
    obtain rfl := hw.symm
    go_wp2_with fail
    go_ret
    exact ⟨rfl, HT.out⟩
  have g1 : (i == j) = false := by simp [hij]
  have q1 : w.cell? ⟨b, 1, none⟩ = some (.slice A2 N.under.length c2) := h.cells.2
  by_cases hfull : 100 ≤ N.under.length
  · have hs : N.sendE i j = 4 := by unfold LNet.sendE; rw [if_neg (by rw [hi, hj]; simp), if_neg hij, if_pos hfull]
    have hs2 : N.send i j = N := by unfold LNet.send; rw [if_pos (by omega)]
    rw [hs, hs2, HE4.out]
    have g2 : (N.under.length : Int) ≥ 100 := by omega
    clear h hs hs2 hi hj ok hij i0 i1 j0 j1
    go_enter Tryz.func107, Tryz.ntmps107
    go_wp2_with fail
    refine HN1.out.mono ?_
    rintro r w' ⟨rfl, hw⟩
    obtain rfl := hw.symm
    go_wp2_with fail
    refine HN2.out.mono ?_
    rintro r w' ⟨rfl, hw⟩
    obtain rfl := hw.symm
    go_wp2_with fail
    go_ret
    exact ⟨rfl, HT.out⟩
  obtain ⟨x, rfl⟩ : ∃ x : Nat, i = (x : Int) := ⟨i.toNat, by omega⟩
  obtain ⟨y, rfl⟩ : ∃ y : Nat, j = (y : Int) := ⟨j.toNat, by omega⟩
  have hx : x < ds.length := by rw [h.len]; omega
  have hy : y < ds.length := by rw [h.len]; omega
  have hs : N.sendE x y = 0 := by unfold LNet.sendE; rw [if_neg (by rw [hi, hj]; simp), if_neg hij, if_neg hfull]
  have hs2 : N.send x y = ⟨N.docs, N.under ++ [((y : Int), (N.doc x).parc (N.doc y).known)]⟩ := by unfold LNet.send; rw [if_neg (by omega)]; simp
  obtain ⟨pe, pr⟩ := LDoc.parc_of (ok.doc x) (ok.doc y)
  have g2 : ¬ (N.under.length : Int) ≥ 100 := by omega
  have x1 : (x : Int) < (ds.length : Int) := by omega
  have y1 : (y : Int) < (ds.length : Int) := by omega
  have x0 : (0 : Int) ≤ (x : Int) := by omega
  have y0 : (0 : Int) ≤ (y : Int) := by omega
  have hu : N.under.length ≤ 100 := ok.under
  obtain ⟨g, rfl, hpx⟩ := h.ptr hx
  obtain ⟨g', e', hpy⟩ := h.ptr hy
  injection e' with e'
  injection e' with e'
  subst e'
  have q0 := h.cells.1
  have HCEL : Hid (∀ W, Below w.heap.size w W → W.cell? ⟨b, 0, none⟩ = some (.slice (some ⟨g, 0, none⟩) ds.length c1) ∧ W.cell? ⟨b, 1, none⟩ = some (.slice A2 N.under.length c2) ∧ W.cell? ⟨g, x, none⟩ = some (.pointer (some ⟨ds[x].b, 0, none⟩)) ∧ W.cell? ⟨g, y, none⟩ = some (.pointer (some ⟨ds[y].b, 0, none⟩))) := fun W hW => by
    have hA := h.below hW
    obtain ⟨ga, ea, h1⟩ := hA.ptr hx
    obtain ⟨gb, eb, h2⟩ := hA.ptr hy
    injection ea with ea
    injection ea with ea
    injection eb with eb
    injection eb with eb
    subst ea
    subst eb
    exact ⟨hA.cells.1, hA.cells.2, h1, h2⟩
  obtain ⟨P, hP⟩ : ∃ P, P = (N.doc x).parc (N.doc y).known := ⟨_, rfl⟩
  have HKN : Hid (∀ W, Below w.heap.size w W → Calls Tryz.prog 27 #[.pointer (some ⟨ds[y].b, 0, none⟩)] W (fun r w' => ∃ V c, r = .returned (.slice V (N.doc y).known.length c) ∧ Below w.heap.size w w' ∧
      Hid (∀ W2, Below w'.heap.size w' W2 → Calls Tryz.prog 168 #[.pointer (some ⟨ds[x].b, 0, none⟩), .slice V (N.doc y).known.length c] W2 (fun r w4 => r = .returned (.tuple #[.string P, .nilIface]) ∧ Below w.heap.size w w4)))) := fun W hW => by
    refine (known_doc W B _ _ _ _ ((h.below hW).nodes y hy) (ok.doc y)).mono ?_
    rintro r w' ⟨V, c, rfl, hO, hb⟩
    have hb' := hW.trans (hb.mono hW.size)
    refine ⟨V, c, rfl, hb', fun W2 hW2 => ?_⟩
    have hb2 := hb'.trans (hW2.mono hb'.size)
    have hkl : (N.doc y).known.length = 8 := (vec_ok (ok.doc y).known).1
    refine (parcel_any W2 B _ _ _ _ ((h.below hb2).nodes x hx) (ok.doc x) V c (N.doc y).known ((hO.reads.below hW2).more hW2.size) (by omega)).mono ?_
    rintro r w4 ⟨rfl, hb4⟩
    exact ⟨by rw [pe, pr, ← hP]; rfl, hb2.trans (hb4.mono hb2.size)⟩
  rw [hs, hs2, HE0, ← hP]
  have HH := Lib.hid h
  have HFIT : Hid (Fits (N.under.length + 1) 24) := Fits.of_small (by omega) (by decide)
  have HONE : Hid (OneCells [Value.int .i64 (y : Int), .string P]) := by
    intro u hu; simp at hu; rcases hu with rfl | rfl <;> rfl
  have hbs := h.size
  generalize ds[x].b = px at *
  generalize ds[y].b = py at *
  generalize (N.doc y).known.length = kl at *
  clear h hs hs2 hi hj ok hij i0 i1 j0 j1 hP pe pr hfull hx hy HT
  go_enter Tryz.func107, Tryz.ntmps107
  go_wp2_with fail
  refine HN1.out.mono ?_
  rintro r w' ⟨rfl, hw⟩
  obtain rfl := hw.symm
  go_wp2_with fail
  refine HN2.out.mono ?_
  rintro r w' ⟨rfl, hw⟩
  obtain rfl := hw.symm
  clear hw
  go_wp2_with fail
  have HBQ : Hid (Below w.heap.size w w) := Below.refl _ _
  go_region_held3 (fun W' => W'.cell? ⟨b, 0, none⟩ = some (.slice (some ⟨g, 0, none⟩) ds.length c1) ∧ W'.cell? ⟨g, x, none⟩ = some (.pointer (some ⟨px, 0, none⟩)) ∧ W'.cell? ⟨g, y, none⟩ = some (.pointer (some ⟨py, 0, none⟩))) (first | go_keep | (refine ⟨?_, ?_, ?_⟩ <;> assumption))
    (first
      | (go_at_call 27; refine (HKN.out _ (by first | exact HBQ.out | exact below_drewN HBQ.out _ | exact HBQ.out.drew)).mono ?_; rintro r w3 ⟨V, c, rfl, hb3, HPA⟩
         clear q0 q1 hpx hpy
         obtain ⟨q0, q1, hpx, hpy⟩ := HCEL.out w3 hb3)
      | (go_at_call 168; refine (HPA.out _ (by first | exact Below.refl _ _ | exact below_drewN (Below.refl _ _) _ | exact (Below.refl _ _).drew)).mono ?_; rintro r w4 ⟨rfl, hb4⟩
         have HB4 := Lib.hid hb4
         clear q0 q1 hpx hpy
         obtain ⟨q0, q1, hpx, hpy⟩ := HCEL.out w4 hb4
         clear HPA hb3 hb4))
  all_goals
    have HA4 := Lib.hid (HH.out.below HB4.out)
    have hz4 := HB4.out.size
    go_wp2_with (at_builtin; refine wpList_app (base := B) (xs := ucells N.under) _ (.tmp 60) (.tmp 64) rfl rfl elemU_ rfl rfl (HA4.out.urow.alloc _) (Reads.row w4 244 #[.int .i64 (y : Int), .string P]) HONE.out HFIT.out (by simp; omega) ?_; intro V8 cV w8 hO hL hg; have hb8 := hL.blk (HA4.out.blk.alloc _) HA4.out.b2; have n1 : w8.cell? ⟨b, 1, none⟩ = some (.slice A2 N.under.length c2) := by { rw [hb8.cell]; rfl }; have f1 := hb8.frozen 1; have HPU := Lib.hid (HA4.out.push ((Below.refl _ _).alloc (Nat.le_refl _) _) hO hL hg); clear hO hL hg hb8)
    go_ret
    refine ⟨rfl, ?_⟩
    obtain ⟨S', t1, t2, t3⟩ := HPU.out
    exact ⟨S', t1, (Only.of_below HB4.out).trans t2, fun g hg => by
      rcases t3 g hg with h5 | h5
      · exact .inl h5
      · exact .inr (by omega)⟩
end Go.Proofs.YthfbjfocmnikaaaGreatDoor
/- net.New, walked. Conditions: none of our own. -/
namespace Go.Proofs.YthfbjfocmnikaaaGreatDoor
open Go.RowKit
set_option linter.unusedVariables false
theorem elemP_ : Elem Tryz.prog 176 37 1 8 := Elem.mk_ (z := .pointer none) Tryz.underlying176 (by kernel_rfl) rfl (by decide)
def NNewPost (w : World) (n : Int) (e : Ending) (w' : World) : Prop :=
  ((1 ≤ n ∧ n ≤ 4) ∧ ∃ b S, e = .returned (.tuple #[.pointer (some ⟨b, 0, none⟩), .nilIface]) ∧ NetIs w' w.heap.size S b (LNet.new n.toNat) ∧ Below w.heap.size w w') ∨
  ((n < 1 ∨ 4 < n) ∧ e = .returned (.tuple #[.pointer none, errV 1]) ∧ Below w.heap.size w w')
def NNewLoop (w : World) (b n : Nat) (i : Value) (wr : World) : Prop :=
  ∃ (k : Nat) (S : List Nat) (ds : List NodeAt) (A1 : Option Addr) (c1 : Nat), k ≤ n ∧ i = .int .i64 (k : Nat) ∧ ds.length = k ∧ Hid (NetAt wr w.heap.size S b (LNet.new k) ds A1 c1 none 0) ∧ Hid (Below w.heap.size w wr)
theorem LNet.new_succ (k : Nat) : LNet.new (k + 1) = ⟨(LNet.new k).docs ++ [LDoc.new], (LNet.new k).under⟩ := by
  unfold LNet.new
  rw [List.replicate_succ']
set_option maxRecDepth 100000 in
set_option maxHeartbeats 4000000 in
theorem nnew_any (w : World) (n : Int) (h0 : -9223372036854775808 ≤ n) (h1 : n ≤ 9223372036854775807) :
    Calls Tryz.prog 47 #[.int .i64 n] w (NNewPost w n) := by
  have HN := Lib.hid (fun W => new_doc W)
  have HE1 := Lib.hid (errV_ne (show (1 : Int) ≠ 0 by decide))
  by_cases hlo : n < 1
  · have HP : Hid (NNewPost w n (.returned (.tuple #[.pointer none, errV 1])) w) := .inr ⟨.inl hlo, rfl, Below.refl _ _⟩
    rw [HE1.out] at HP
    go_enter Tryz.func47, Tryz.ntmps47
    go_wp2_with fail
    go_ret2
    exact HP.out
  by_cases hhi : 4 < n
  · have HP : Hid (NNewPost w n (.returned (.tuple #[.pointer none, errV 1])) w) := .inr ⟨.inr hhi, rfl, Below.refl _ _⟩
    rw [HE1.out] at HP
    have hhi' : n > 4 := hhi
    go_enter Tryz.func47, Tryz.ntmps47
    go_wp2_with fail
    go_ret2
    exact HP.out
  obtain ⟨m, rfl⟩ : ∃ m : Nat, n = (m : Int) := ⟨n.toNat, by omega⟩
  have hhi' : ¬ (m : Int) > 4 := hhi
  have hm1 : 1 ≤ m := by omega
  have hm4 : m ≤ 4 := by omega
  have HP : Hid (∀ b S w', NetIs w' w.heap.size S b (LNet.new m) → Below w.heap.size w w' → NNewPost w (m : Int) (.returned (.tuple #[.pointer (some ⟨b, 0, none⟩), .nilIface])) w') := fun b S w' a1 a2 => .inl ⟨by omega, b, S, rfl, by rw [Int.toNat_natCast]; exact a1, a2⟩
  have HB0 := Lib.hid (NetAt.bare w)
  have HW0 : Hid (Below w.heap.size w (w.alloc (.cells #[.slice none 0 0, .slice none 0 0] 179))) := (Below.refl _ _).alloc (Nat.le_refl _) _
  go_enter Tryz.func47, Tryz.ntmps47
  go_wp2_with fail
  go_loopw [15] (fun i wr => NNewLoop w w.heap.size m i wr) (fun i _ => m - (intOf i).toNat)
  case atStart => exact ⟨0, [w.heap.size], [], none, 0, Nat.zero_le _, rfl, rfl, HB0, HW0⟩
  case round =>
    obtain ⟨k, S, ds, A1, c1, hk, rfl, hds, HA, HB⟩ := hrel
    by_cases hkm : k < m
    · have k1 : (k : Int) < (m : Int) := by omega
      have k4 : k ≤ 4 := by omega
      have q0 : wr.cell? ⟨w.heap.size, 0, none⟩ = some (.slice A1 ds.length c1) := HA.out.cells.1
      have HQ : Hid (∀ W, Below wr.heap.size wr W → W.cell? ⟨w.heap.size, 0, none⟩ = some (.slice A1 ds.length c1)) := fun W hW => (HA.out.below hW).cells.1
      have HONE : Hid (∀ g, OneCells [Value.pointer (some ⟨g, 0, none⟩)]) := fun g u hu => by simp at hu; subst hu; rfl
      have HFIT : Hid (Fits (ds.length + 1) 8) := Fits.of_small (by omega) (by decide)
      have hsz : w.heap.size ≤ wr.heap.size := HB.out.size
      rw [hds] at HFIT q0 HQ
      go_wp2_with fail
      go_region_law (first
        | (go_simp; go_at_call 35; refine (HN.out _).mono ?_; rintro e w1 ⟨b', S', D', rfl, hd, hbn⟩
           have hbn2 : Below wr.heap.size wr w1 := by first | exact hbn | exact below_of_drewN hbn | exact below_of_drew hbn
           have hd2 : DocIs w1 wr.heap.size S' b' LDoc.new D' := hd
           have HAW := Lib.hid (HA.out.below hbn2)
           have hz1 : w.heap.size ≤ w1.heap.size := Nat.le_trans hsz hbn2.size
           have c0 := HQ.out w1 hbn2
           have c0d : w1.drew.cell? ⟨w.heap.size, 0, none⟩ = some (.slice A1 k c1) := c0
           have c0a : (w1.alloc (.cells #[.pointer (some ⟨b', 0, none⟩)] 37)).cell? ⟨w.heap.size, 0, none⟩ = some (.slice A1 k c1) := HQ.out _ (hbn2.alloc hbn2.size _)
           have c0b : (w1.drew.alloc (.cells #[.pointer (some ⟨b', 0, none⟩)] 37)).cell? ⟨w.heap.size, 0, none⟩ = some (.slice A1 k c1) := HQ.out _ (hbn2.drew.alloc hbn2.size _))
        | (refine step_app (base := w.heap.size) (xs := ptrs ds) _ (.tmp 21) (.tmp 23) rfl rfl elemP_ rfl rfl (by rw [← hds]; first | exact HAW.out.row.alloc _ | exact (HAW.out.row.drew).alloc _) (Reads.row _ 37 #[.pointer (some ⟨b', 0, none⟩)]) (HONE.out _) HFIT.out (by simp; omega) ?_
           intro V8 cV w8 hO hL hg
           have hb8 := hL.blk (by first | exact HAW.out.blk.alloc _ | exact (HAW.out.blk.drew).alloc _) HAW.out.b1
           have n0 : w8.cell? ⟨w.heap.size, 0, none⟩ = some (.slice A1 ds.length c1) := by { rw [hb8.cell]; rfl }
           have f0 := hb8.frozen 0
           obtain ⟨S2, g1, g2, g3⟩ := HA.out.add hd2 hbn2 (by first | exact (Below.refl _ _).alloc (Nat.le_refl _) _ | exact (Below.refl _ _).drew.alloc (Nat.le_refl _) _) (by rw [hds]; exact hO) hL hg
           have HG1 := Lib.hid g1
           have HG3 := Lib.hid (g3.below hsz HA.out.base_)
           clear g1 g2 g3 hO hL hg hb8))
      all_goals
        rw [hds] at HG1 HG3
        go_wp2_with fail
        go_roundw
        case rel => exact ⟨k + 1, S2, ds ++ [⟨b', S', D'⟩], V8, cV, by omega, by go_num, by rw [List.length_append, hds]; rfl, by rw [LNet.new_succ]; exact HG1, HB.out.trans HG3.out⟩
        case measure => simp [intOf]; omega
    · have k1 : ¬ (k : Int) < (m : Int) := by omega
      have hkm2 : k = m := by omega
      subst hkm2
      have HF := Lib.hid (HP.out w.heap.size S wr ⟨ds, A1, c1, none, 0, HA.out⟩ HB.out)
      go_wp2_with fail
      go_ret2
      exact HF.out
end Go.Proofs.YthfbjfocmnikaaaGreatDoor
/- (*net.Net).Do, walked. Conditions: the documents are right. -/
namespace Go.Proofs.YthfbjfocmnikaaaGreatDoor
open Go.RowKit
set_option linter.unusedVariables false
set_option maxRecDepth 100000 in
set_option maxHeartbeats 8000000 in
theorem ndo_any (w : World) (B : Nat) (S : List Nat) (b : Nat) (N : LNet) (h : NetIs w B S b N) (ok : N.Ok) (e : LEv) (hwf : e.Wf) :
    Calls Tryz.prog 50 #[.pointer (some ⟨b, 0, none⟩), .agg e.cells] w (fun r w' => r = .returned (errV (N.doE e)) ∧ NetTo w B S b (N.do_ e) w') := by
  obtain ⟨ds, A1, c1, A2, c2, h⟩ := h
  have HE1 := Lib.hid (errV_ne (show (1 : Int) ≠ 0 by decide))
  have HB0 : Hid (Below w.heap.size w (w.alloc (.cells e.cells 96))) := (Below.refl _ _).alloc (Nat.le_refl _) _
  have hA0 := h.below HB0.out
  have HX0 := Lib.hid (Blk.new w 96 e.cells)
  obtain ⟨x0, x1, x2, x3⟩ := EvBox.of HX0.out
  have HBK : Hid (∀ M w', NetTo (w.alloc (.cells e.cells 96)) B S b M w' → NetTo w B S b M w') := fun M w' ht => NetTo.back (Only.of_below HB0.out) (fun g hg => .inl hg) ht
  have HED := Lib.hid (fun hb => nedit_any _ B S b N ds A1 c1 A2 c2 hA0 ok e hwf hb)
  have HSE := Lib.hid (nsend_any _ B S b N ds A1 c1 A2 c2 hA0 ok e.a e.b)
  have HMA := Lib.hid (fun hb => nmail_any _ B S b N ds A1 c1 A2 c2 hA0 ok e hwf hb)
  have HSELF := Lib.hid (h.self_ HB0.out)
  clear h hA0 ok hwf
  obtain ⟨ew, ea, eb, ec⟩ := e
  by_cases hed : LNet.editB ⟨ew, ea, eb, ec⟩
  · have HR : Hid (N.doE ⟨ew, ea, eb, ec⟩ = N.editE ⟨ew, ea, eb, ec⟩ ∧ N.do_ ⟨ew, ea, eb, ec⟩ = N.edit ⟨ew, ea, eb, ec⟩) := ⟨by unfold LNet.doE; rw [if_pos hed], by unfold LNet.do_; rw [if_pos hed]⟩
    rw [HR.out.1, HR.out.2]
    have HCA := Lib.hid (HED.out hed)
    unfold LNet.editB at hed
    unfold LEv.cells at *
    simp only at *
    clear HED HSE HMA HSELF HR HX0
    generalize N.editE ⟨ew, ea, eb, ec⟩ = k at *
    generalize N.edit ⟨ew, ea, eb, ec⟩ = M at *
    rcases hed with rfl | rfl | rfl | rfl
    all_goals
      go_enter Tryz.func50, Tryz.ntmps50
      go_wp2_with fail
      refine HCA.out.mono ?_
      rintro r w' ⟨rfl, ht⟩
      have HT := Lib.hid (HBK.out _ _ ht)
      clear ht
      go_wp2_with fail
      go_ret
      exact ⟨rfl, HT.out⟩
  by_cases h3 : ew = 3
  · subst h3
    have HR : Hid (N.doE ⟨3, ea, eb, ec⟩ = N.sendE ea eb ∧ N.do_ ⟨3, ea, eb, ec⟩ = N.send ea eb) := ⟨by unfold LNet.doE; rw [if_neg hed, if_pos rfl], by unfold LNet.do_; rw [if_neg hed, if_pos rfl]⟩
    rw [HR.out.1, HR.out.2]
    unfold LEv.cells at *
    simp only at *
    clear HED HMA HSELF HR HX0 hed
    generalize N.sendE ea eb = k at *
    generalize N.send ea eb = M at *
    go_enter Tryz.func50, Tryz.ntmps50
    go_wp2_with fail
    refine HSE.out.mono ?_
    rintro r w' ⟨rfl, ht⟩
    have HT := Lib.hid (HBK.out _ _ ht)
    clear ht
    go_wp2_with fail
    go_ret
    exact ⟨rfl, HT.out⟩
  by_cases hma : LNet.mailB ⟨ew, ea, eb, ec⟩
  · have HR : Hid (N.doE ⟨ew, ea, eb, ec⟩ = N.mailE ⟨ew, ea, eb, ec⟩ ∧ N.do_ ⟨ew, ea, eb, ec⟩ = N.mail ⟨ew, ea, eb, ec⟩) := ⟨by unfold LNet.doE; rw [if_neg hed, if_neg h3, if_pos hma], by unfold LNet.do_; rw [if_neg hed, if_neg h3, if_pos hma]⟩
    rw [HR.out.1, HR.out.2]
    have HCA := Lib.hid (HMA.out hma)
    unfold LNet.mailB at hma
    unfold LEv.cells at *
    simp only at *
    clear HED HSE HMA HSELF HR HX0 hed h3
    generalize N.mailE ⟨ew, ea, eb, ec⟩ = k at *
    generalize N.mail ⟨ew, ea, eb, ec⟩ = M at *
    rcases hma with rfl | rfl | rfl
    all_goals
      go_enter Tryz.func50, Tryz.ntmps50
      go_wp2_with fail
      refine HCA.out.mono ?_
      rintro r w' ⟨rfl, ht⟩
      have HT := Lib.hid (HBK.out _ _ ht)
      clear ht
      go_wp2_with fail
      go_ret
      exact ⟨rfl, HT.out⟩
  · have HR : Hid (N.doE ⟨ew, ea, eb, ec⟩ = 1 ∧ N.do_ ⟨ew, ea, eb, ec⟩ = N) := ⟨by unfold LNet.doE; rw [if_neg hed, if_neg h3, if_neg hma], by unfold LNet.do_; rw [if_neg hed, if_neg h3, if_neg hma]⟩
    rw [HR.out.1, HR.out.2, HE1.out]
    unfold LNet.editB at hed
    unfold LNet.mailB at hma
    simp only [not_or] at hed hma
    obtain ⟨a1, a2, a7, a8⟩ := hed
    obtain ⟨a4, a5, a6⟩ := hma
    have g1 : (ew == 1) = false := by simp [a1]
    have g2 : (ew == 2) = false := by simp [a2]
    have g3 : (ew == 3) = false := by simp [h3]
    have g4 : (ew == 4) = false := by simp [a4]
    have g5 : (ew == 5) = false := by simp [a5]
    have g6 : (ew == 6) = false := by simp [a6]
    have g7 : (ew == 7) = false := by simp [a7]
    have g8 : (ew == 8) = false := by simp [a8]
    unfold LEv.cells at *
    simp only at *
    clear HED HSE HMA HR HX0 a1 a2 h3 a4 a5 a6 a7 a8
    go_enter Tryz.func50, Tryz.ntmps50
    go_wp2_with fail
    go_ret
    exact ⟨rfl, HSELF.out⟩
end Go.Proofs.YthfbjfocmnikaaaGreatDoor
/- A net in a law: its steps, each in one sentence. Conditions: none of our own. -/
namespace Go.Proofs.YthfbjfocmnikaaaGreatDoor
open Go.RowKit
set_option linter.unusedVariables false
/-- A net of the call's own, all of it from B on. -/
def NSc (w : World) (B b : Nat) (N : LNet) (wr : World) : Prop := w.heap.size ≤ B ∧ N.Ok ∧ Below w.heap.size w wr ∧ ∃ S, NetIs wr B S b N
namespace NSc
variable {w wr w' : World} {B b : Nat} {N M : LNet}
theorem ok (h : NSc w B b N wr) : N.Ok := h.2.1
theorem below (h : NSc w B b N wr) : Below w.heap.size w wr := h.2.2.1
theorem step (h : NSc w B b N wr) (hb : Below wr.heap.size wr w') : NSc w B b N w' := by
  obtain ⟨h1, h2, h3, S, h4⟩ := h
  exact ⟨h1, h2, h3.trans (hb.mono h3.size), S, h4.below hb⟩
theorem make (hw : Below w.heap.size w wr) {n : Nat} (h1 : 1 ≤ n) (h4 : n ≤ 4) {S : List Nat} (hn : NetIs w' wr.heap.size S b (LNet.new n)) (hb : Below wr.heap.size wr w') : NSc w wr.heap.size b (LNet.new n) w' :=
  ⟨hw.size, LNet.new_ok h1 h4, hw.trans (hb.mono hw.size), S, hn⟩
theorem gone (h : NSc w B b N wr) (ok : M.Ok) {S : List Nat} (hn : NetIs wr B S b N) (ht : NetTo wr B S b M w') : NSc w B b M w' := by
  obtain ⟨h1, h2, h3, _⟩ := h
  obtain ⟨S', k1, k2, k3⟩ := ht
  obtain ⟨ds, A1, c1, A2, c2, hA⟩ := hn
  exact ⟨h1, ok, h3.trans (k2.below h3.size (fun g hg => Nat.le_trans h1 (hA.own g hg).1)), S', k1⟩
theorem do_ (h : NSc w B b N wr) (e : LEv) (hwf : e.Wf) :
    Calls Tryz.prog 50 #[.pointer (some ⟨b, 0, none⟩), .agg e.cells] wr (fun r w' => r = .returned (errV (N.doE e)) ∧ NSc w B b (N.do_ e) w') := by
  obtain ⟨h1, h2, h3, S, h4⟩ := id h
  refine (ndo_any wr B S b N h4 h2 e hwf).mono ?_
  rintro r w' ⟨rfl, ht⟩
  exact ⟨rfl, h.gone (h2.do_ e) h4 ht⟩
theorem text (h : NSc w B b N wr) (i : Int) : Calls Tryz.prog 54 #[.pointer (some ⟨b, 0, none⟩), .int .i64 i] wr (fun r w' => r = .returned (.tuple #[.string (if N.nodeB i = true then textOf (N.doc i.toNat).book else ⟨#[]⟩), errV (if N.nodeB i = true then 0 else 1)]) ∧ NSc w B b N w') := by
  obtain ⟨h1, h2, h3, S, ds, A1, c1, A2, c2, h4⟩ := id h
  exact (ntext_any wr B S b N ds A1 c1 A2 c2 h4 h2 i).mono fun r w' hh => ⟨hh.1, h.step hh.2⟩
theorem under (h : NSc w B b N wr) : Calls Tryz.prog 51 #[.pointer (some ⟨b, 0, none⟩)] wr (fun r w' => r = .returned (.int .i64 (N.under.length : Nat)) ∧ w' = wr) := by
  obtain ⟨h1, h2, h3, S, ds, A1, c1, A2, c2, h4⟩ := h
  exact nunder_any wr B S b N ds A1 c1 A2 c2 h4
end NSc
end Go.Proofs.YthfbjfocmnikaaaGreatDoor

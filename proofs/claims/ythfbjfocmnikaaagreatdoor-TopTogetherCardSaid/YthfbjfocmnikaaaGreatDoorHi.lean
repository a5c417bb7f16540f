/- 3 texts in one: each says ahead of itself what is proved, and its conditions. -/
import Derived.Test.YthfbjfocmnikaaaGreatDoorBookLaw
import Derived.Test.YthfbjfocmnikaaaGreatDoorDocKnown
import Derived.Test.YthfbjfocmnikaaaGreatDoorEditInsert
import Derived.Test.YthfbjfocmnikaaaGreatDoorEditLaw
import Derived.Test.YthfbjfocmnikaaaGreatDoorNthSeen
/- cursor.Anchor, Resolve, Range, walked. Conditions: places that an int may count. -/
namespace Go.Proofs.YthfbjfocmnikaaaGreatDoor
open Go.RowKit
set_option linter.unusedVariables false

theorem empty_yes {p : ByteArray} (h : p.size = 0) : p.toList.isEmpty = true := by
  rw [toList_data, List.isEmpty_iff]
  exact List.eq_nil_of_length_eq_zero (by rw [Array.length_toList]; exact h)
theorem empty_no {p : ByteArray} (h : p.size ≠ 0) : p.toList.isEmpty = false := by
  rw [toList_data]
  cases hl : p.data.toList with
  | nil =>
    have : p.data.toList.length = 0 := by rw [hl]; rfl
    rw [Array.length_toList] at this
    exact absurd this h
  | cons a b => rfl
/-- Where a cursor is, of a book that is right. -/
def posOf (l : List LLeaf) (p : ByteArray) : Nat := if p.size = 0 then (textOf l).size else (textOf (l.take (ahead l p))).size
def cpErr (p : ByteArray) : Int := if p.size = 0 then 0 else placeErr p
def anchErr (l : List LLeaf) (off : Int) : Int := if bookErr l ≠ 0 then bookErr l else if off < 0 ∨ ((textOf l).size : Int) < off then 1 else 0
def anchRes (l : List LLeaf) (off : Int) : ByteArray := if anchErr l off = 0 ∧ off < ((textOf l).size : Int) then (l.getD (nthFrom 0 l off).toNat default).place else ⟨#[]⟩
def resErr (l : List LLeaf) (p : ByteArray) : Int := if bookErr l ≠ 0 then bookErr l else cpErr p
def resVal (l : List LLeaf) (p : ByteArray) : Int := if resErr l p = 0 then (posOf l p : Int) else 0
theorem text_size (l : List LLeaf) : (textOf l).size = (textL l).length := strOf_size _
def StrPost (w : World) (s : ByteArray) (k : Int) (e : Ending) (w' : World) : Prop := e = .returned (.tuple #[.string s, errV k]) ∧ Below w.heap.size w w'
section
variable (w : World) (A : Option Addr) (c : Nat) (l : List LLeaf) (h : Reads w w.heap.size 3 A l.length (lcells l)) (hs : Sized l) (hn : l.length ≤ c) (hc : c ≤ 9223372036854775807)
include h hs hn hc
set_option maxRecDepth 100000 in
set_option maxHeartbeats 2000000 in
theorem resolve_any (p : ByteArray) (hp : p.size ≤ 9223372036854775807) : Calls Tryz.prog 60 #[.slice A l.length c, .string p] w (OffPost w (resVal l p) (resErr l p)) := by
  by_cases h0 : p.size = 0
  · have HT := Lib.hid (text_any w A c l h hs (by omega))
    have g1 := empty_yes h0
    have hE : resErr l p = bookErr l := by
      unfold resErr cpErr
      rw [if_pos h0]
      split
      · rfl
      · next h1 => omega
    have HE := Lib.hid hE
    have HV : Hid (resVal l p = ((if bookErr l = 0 then textOf l else ⟨#[]⟩ : ByteArray).size : Int)) := by
      show _ = _
      unfold resVal posOf
      rw [hE, if_pos h0]
      split <;> rfl
    obtain ⟨tx, htx⟩ : ∃ tx, tx = (if bookErr l = 0 then textOf l else ⟨#[]⟩ : ByteArray) := ⟨_, rfl⟩
    have HTX := Lib.hid htx
    clear h hs h0 hE htx
    go_enter Tryz.func60, Tryz.ntmps60
    go_wp2_with fail
    refine HT.out.mono ?_
    rintro e w1 ⟨rfl, hb1⟩
    rw [← HTX.out]
    have HB1 := Lib.hid hb1
    clear hb1
    go_wp2_with fail
    go_ret2
    exact ⟨by rw [HV.out, HE.out, ← HTX.out]; rfl, HB1.out⟩
  · have HO := Lib.hid (offset_any w A c l p h hs hn hc hp)
    have g1 := empty_no h0
    have hE : resErr l p = bookReady l p := by unfold resErr cpErr bookReady; rw [if_neg h0]
    have HE := Lib.hid hE
    have HV : Hid (resVal l p = offOf l p) := by show _ = _; unfold resVal offOf posOf; rw [hE, if_neg h0]
    clear h hs h0 hE
    go_enter Tryz.func60, Tryz.ntmps60
    go_wp2_with fail
    refine HO.out.mono ?_
    rintro e w1 ⟨rfl, hb1⟩
    have HB1 := Lib.hid hb1
    clear hb1
    go_wp2_with fail
    go_ret2
    exact ⟨by rw [HV.out, HE.out]; rfl, HB1.out⟩
set_option maxRecDepth 100000 in
set_option maxHeartbeats 2000000 in
theorem anchor_any (off : Int) (ho : off ≤ 9223372036854775807) : Calls Tryz.prog 59 #[.slice A l.length c, .int .i64 off] w (StrPost w (anchRes l off) (anchErr l off)) := by
  have HT := Lib.hid (text_any w A c l h hs (by omega))
  have HR := Lib.hid h
  clear h hs
  by_cases he : bookErr l = 0
  · have HE := Lib.hid he
    have ok := book_ok he
    have hfew := ok.few
    have hts := text_size l
    have htl := textL_le l
    by_cases hb : off < 0 ∨ ((textOf l).size : Int) < off
    · have HF : Hid (anchErr l off = 1) := by show _ = _; unfold anchErr; rw [if_neg (fun x => x he), if_pos hb]
      have HG : Hid (anchRes l off = ⟨#[]⟩) := by show _ = _; unfold anchRes; rw [HF.out, if_neg (fun x => by have := x.1; omega)]
      generalize htx : textOf l = tx at *
      have HTX := Lib.hid htx
      clear htx
      have g1 : (decide (off < 0) || decide ((tx.size : Int) < off)) = true := by simp; omega
      have h300 : tx.size ≤ 300 := by omega
      clear he ok hts htl
      by_cases h1 : off < 0
      · clear hb
        go_enter Tryz.func59, Tryz.ntmps59
        go_wp2_with fail
        refine HT.out.mono ?_
        rintro e w1 ⟨rfl, hb1⟩
        rw [if_pos HE.out, HE.out, HTX.out, show errV 0 = .nilIface from rfl]
        have HB1 := Lib.hid hb1
        clear hb1
        go_wp2_with fail
        go_ret2
        exact ⟨by rw [HF.out, HG.out]; rfl, HB1.out⟩
      · have h2 : (tx.size : Int) < off := by omega
        clear hb
        go_enter Tryz.func59, Tryz.ntmps59
        go_wp2_with fail
        refine HT.out.mono ?_
        rintro e w1 ⟨rfl, hb1⟩
        rw [if_pos HE.out, HE.out, HTX.out, show errV 0 = .nilIface from rfl]
        have HB1 := Lib.hid hb1
        clear hb1
        go_wp2_with fail
        go_ret2
        exact ⟨by rw [HF.out, HG.out]; rfl, HB1.out⟩
    · have HF : Hid (anchErr l off = 0) := by show _ = _; unfold anchErr; rw [if_neg (fun x => x he), if_neg hb]
      obtain ⟨o, rfl⟩ := Int.eq_ofNat_of_zero_le (show 0 ≤ off by omega)
      by_cases heq : o = (textOf l).size
      · have HG : Hid (anchRes l (o : Int) = ⟨#[]⟩) := by show _ = _; unfold anchRes; rw [if_neg (fun x => by have := x.2; omega)]
        generalize htx : textOf l = tx at *
        have HTX := Lib.hid htx
        clear htx
        subst heq
        have h300 : tx.size ≤ 300 := by omega
        have g0 : decide ((tx.size : Int) < 0) = false := decide_eq_false (by omega)
        have g1 : decide ((tx.size : Int) < (tx.size : Int)) = false := decide_eq_false (by omega)
        have g2 : ((tx.size : Int) == (tx.size : Int)) = true := by simp
        clear he ok hb hts htl
        go_enter Tryz.func59, Tryz.ntmps59
        go_wp2_with fail
        refine HT.out.mono ?_
        rintro e w1 ⟨rfl, hb1⟩
        rw [if_pos HE.out, HE.out, HTX.out, show errV 0 = .nilIface from rfl]
        have HB1 := Lib.hid hb1
        clear hb1
        go_wp2_with fail
        go_ret2
        exact ⟨by rw [HF.out, HG.out]; rfl, HB1.out⟩
      · obtain ⟨k, hk, hk1, _, _⟩ := nth_seen l 0 o (by omega)
        rw [Nat.zero_add] at hk1
        have HG : Hid (anchRes l (o : Int) = l[k].place) := by
          show _ = _
          unfold anchRes
          rw [if_pos ⟨HF.out, by omega⟩, hk1]
          simp [List.getD, hk]
        have HN := Lib.hid (fun W (hb : Below w.heap.size w W) => nth_any W A c l (o : Int) ((HR.out.below hb).more hb.size) (by omega) (by omega) ho)
        have HK := Lib.hid hk1
        have HLF : Hid (∀ W, Below w.heap.size w W → ∃ ad, A = some ad ∧ W.cell? (ad.add (k * 3)) = some (.string l[k].place)) := fun W hb => by
          obtain ⟨ad, e, _, c0, _, _⟩ := ((HR.out.below hb)).leaf hk
          exact ⟨ad, e, c0⟩
        generalize htx : textOf l = tx at *
        have HTX := Lib.hid htx
        clear htx
        have h300 : tx.size ≤ 300 := by omega
        have g0 : decide ((o : Int) < 0) = false := decide_eq_false (by omega)
        have g1 : decide ((tx.size : Int) < (o : Int)) = false := decide_eq_false (by omega)
        have g1n : decide (tx.size < o) = false := decide_eq_false (by omega)
        have g2 : ((o : Int) == (tx.size : Int)) = false := by rw [beq_eq_false_iff_ne]; omega
        have k0 : (0 : Int) ≤ (k : Int) := by omega
        have k1 : (k : Int) < (l.length : Int) := by omega
        generalize l[k].place = pk at *
        clear he ok hb hts htl hk1
        go_enter Tryz.func59, Tryz.ntmps59
        go_wp2_with fail
        refine HT.out.mono ?_
        rintro e w1 ⟨rfl, hb1⟩
        rw [if_pos HE.out, HE.out, HTX.out, show errV 0 = .nilIface from rfl]
        have HB1 := Lib.hid hb1
        clear hb1
        go_wp2_with fail
        refine (HN.out _ HB1.out).mono ?_
        rintro e w2 ⟨rfl, hb2⟩
        rw [HK.out]
        have HB2 := Lib.hid (HB1.out.trans (hb2.mono HB1.out.size))
        clear hb2
        obtain ⟨ad, rfl, c0⟩ := HLF.out _ HB2.out
        go_wp2_with fail
        go_ret2
        exact ⟨by rw [HF.out, HG.out]; rfl, HB2.out⟩
  · have HV := Lib.hid (errV_ne he)
    have HF : Hid (anchErr l off = bookErr l) := if_pos he
    have HG : Hid (anchRes l off = ⟨#[]⟩) := by show _ = _; unfold anchRes; rw [HF.out, if_neg (fun x => he x.1)]
    have HN := Lib.hid he
    clear he
    go_enter Tryz.func59, Tryz.ntmps59
    go_wp2_with fail
    refine HT.out.mono ?_
    rintro e w1 ⟨rfl, hb1⟩
    rw [if_neg HN.out, HV.out]
    have HB1 := Lib.hid hb1
    clear hb1
    go_wp2_with fail
    go_ret2
    exact ⟨by rw [HF.out, HG.out, HV.out]; rfl, HB1.out⟩
end
end Go.Proofs.YthfbjfocmnikaaaGreatDoor
/- Cursors stay by their letters when letters are typed: plain. Conditions: none. -/
namespace Go.Proofs.YthfbjfocmnikaaaGreatDoor
open Go.RowKit
set_option linter.unusedVariables false
theorem textL_app (a b : List LLeaf) : textL (a ++ b) = textL a ++ textL b := by simp [textL]
theorem ahead_at {l : List LLeaf} (hr : Rising l) {n : Nat} (hn : n < l.length) : ahead l l[n].place = n :=
  ahead_of (by omega) (fun k hk hkj => rising_lt hr k n hk hn hkj) (fun k hk hjk => by
    rcases Nat.lt_or_ge n k with h1 | h1
    · exact less_asymm' _ _ (rising_lt hr n k hn hk h1)
    · obtain rfl : k = n := by omega
      exact less_irrefl' _)
theorem insR_small {d : LDoc} {who off : Int} {text : ByteArray} : ∀ o ∈ d.insR who off text, o.place.size ≤ 12 := by
  by_cases h : d.insE who off text = 0
  · obtain ⟨h1, h2, h3, h4⟩ := LDoc.ins_ok h
    rw [h3]
    generalize rightOf d.book (idxOf d.book off) = right at *
    generalize leftOf d.book off = left at *
    generalize nOf d.known ⟨who, 0⟩ = n at *
    generalize text.toList = t at *
    clear h h1 h2 h3
    induction t generalizing left n with
    | nil => intro o ho; simp [typedOps] at ho
    | cons c t ih =>
      intro o ho
      rw [typedOps] at ho
      rcases List.mem_cons.1 ho with rfl | ho
      · exact (okPlace (good_of h4.1).check).1
      · exact ih _ _ h4.2 o ho
  · intro o ho
    unfold LDoc.insR at ho
    rw [if_neg h] at ho
    cases ho
theorem insR_len {d : LDoc} {who off : Int} {text : ByteArray} : (d.insR who off text).length ≤ 200 := by
  by_cases h : d.insE who off text = 0
  · obtain ⟨h1, h2, h3, h4⟩ := LDoc.ins_ok h
    rw [h3, typedOps_len, toList_len]
    exact (insErr_zero h2).1
  · unfold LDoc.insR
    rw [if_neg h]; simp
end Go.Proofs.YthfbjfocmnikaaaGreatDoor
/- A closed fact that many laws begin with: what is typed into a new document; and ops that a call has laid lie apart from a document. Conditions: none. -/
namespace Go.Proofs.YthfbjfocmnikaaaGreatDoor
open Go.RowKit
set_option linter.unusedVariables false
theorem sized_ok {l : List LLeaf} (h : BookOk l) : Sized l := fun x hx => by have := place_small (h.leafs x hx).place; omega
theorem ops_apart {w1 w2 : World} {B N b : Nat} {S : List Nat} {st : LDoc} {D : DLay} (h : DocIs w1 B S b st D) (hN : w1.heap.size ≤ N) {V : Option Addr} {c : Nat} {ys : List OpAt} (ho : OwnOps w2 N V c ys) (hp : ∀ o ∈ ys.map OpAt.op, o.place.size ≤ 12) :
    (0 < ys.length → ∀ g ∈ ob V, g ∉ S) ∧ ∀ y ∈ ys, OpFar w2 S y := by
  refine ⟨fun _ g hg hm => ?_, fun y hy => ⟨(ho.seen y hy).reads, ?_, fun _ g hg hm => ?_⟩⟩
  · have := (ho.row.lt g hg).1; have := (h.own g hm).2; omega
  · have := hp y.op (List.mem_map.2 ⟨y, hy, rfl⟩); omega
  · have := ((ho.seen y hy).lt g hg).1; have := (h.own g hm).2; omega
/-- edit.Do of ops that edit.Insert has made, on the same document. -/
theorem do_ins {w7 w8 : World} {B b : Nat} {S : List Nat} {st : LDoc} {D : DLay} (h : DocIs w7 B S b st D) (ok : st.Ok) {who off : Int} {text : ByteArray} {V : Option Addr} {c : Nat} {zs : List OpAt} (hz : zs.map OpAt.op = st.insR who off text) (ho : OwnOps w8 w7.heap.size V c zs) (hb : Below w7.heap.size w7 w8) :
    Calls Tryz.prog 90 #[.pointer (some ⟨b, 0, none⟩), .slice V zs.length c] w8 (fun e w' => e = .returned (errV (st.doE (st.insR who off text))) ∧ DocTo w8 B S b (st.doR (st.insR who off text)) w') := by
  obtain ⟨a1, a2⟩ := ops_apart h (Nat.le_refl _) ho (by rw [hz]; exact insR_small)
  have hl : zs.length ≤ 200 := by have := insR_len (d := st) (who := who) (off := off) (text := text); rw [← hz, List.length_map] at this; exact this
  have := do_any w8 B S b st D (h.below hb) ok V c zs ho.row.reads a1 a2 (by omega)
  rw [hz] at this
  exact this
def hiT : ByteArray := ⟨#[104, 105]⟩
def hiDoc : LDoc := LDoc.new.doR (LDoc.new.insR 1 0 hiT)
theorem hi_ins : LDoc.new.insE 1 0 hiT = 0 := by decide +kernel
theorem hi_do : LDoc.new.doE (LDoc.new.insR 1 0 hiT) = 0 := by decide +kernel
theorem hi_text : textOf hiDoc.book = hiT := by decide +kernel
theorem hi_ok : hiDoc.Ok := LDoc.doR_ok _ LDoc.new_ok
end Go.Proofs.YthfbjfocmnikaaaGreatDoor

/- 8 texts in one: each says ahead of itself what is proved, and its conditions. -/
import Derived.Test.YtnmmnejoldbeiaaGreatDoorBookAt
import Derived.Test.YtnmmnejoldbeiaaGreatDoorDocGo
import Derived.Test.YtnmmnejoldbeiaaGreatDoorDocHelp
import Derived.Test.YtnmmnejoldbeiaaGreatDoorDocOps
import Derived.Test.YtnmmnejoldbeiaaGreatDoorMarkSeen
import Derived.Test.YtnmmnejoldbeiaaGreatDoorPlaceCheck
/- A row of ops is applied to a document, whatever comes of it: the round of such a loop. Plain, and by the contract of Apply. Conditions: the ops can be read. -/
namespace Go.Proofs.YtnmmnejoldbeiaaGreatDoor
open Go.RowKit
set_option linter.unusedVariables false
/-- A document of the call's own to which at most n ops were applied. -/
def DocAt (w : World) (B b n : Nat) (wr : World) : Prop := ∃ st S D, DocIs wr B S b st D ∧ st.Ok ∧ Says st.ops st ∧ Numbered st.ops ∧ st.ops.length ≤ n ∧ Below w.heap.size w wr
def DocLoop (w : World) (B b : Nat) (i : Value) (wr : World) : Prop := ∃ k : Nat, k ≤ 60 ∧ i = .int .i64 k ∧ Hid (DocAt w B b k wr)
theorem DocAt.new {w w' : World} {B b : Nat} {S : List Nat} {D : DLay} (h : DocIs w' B S b LDoc.new D) (hb : Below w.heap.size w w') (n : Nat) : DocAt w B b n w' := ⟨_, S, D, h, LDoc.new_ok, Says.new, Numbered.nil, Nat.zero_le _, hb⟩
theorem DocAt.more {w wr : World} {B b n m : Nat} (h : DocAt w B b n wr) (hm : n ≤ m) : DocAt w B b m wr := by
  obtain ⟨st, S, D, h1, h2, h3, h4, h5, h6⟩ := h
  exact ⟨st, S, D, h1, h2, h3, h4, by omega, h6⟩
theorem DocAt.round {w wr : World} {B b n : Nat} (h : DocAt w B b n wr) (hB : w.heap.size ≤ B) {A : Option Addr} {ys : List OpAt} (hr : Reads w w.heap.size 6 A ys.length (ocells ys)) (hg : ∀ y ∈ ys, y.Good w) {k : Nat} (hk : k < ys.length) :
    ∃ ad who nn what p letter seen ya yc, A = some ad ∧ wr.cell? (ad.add (k * 6)) = some (.int .i64 who) ∧ wr.cell? ⟨(ad.add (k * 6)).block, (ad.add (k * 6)).off + 1, none⟩ = some (.int .i64 nn) ∧ wr.cell? ⟨(ad.add (k * 6)).block, (ad.add (k * 6)).off + 2, none⟩ = some (.int .i64 what) ∧
      wr.cell? ⟨(ad.add (k * 6)).block, (ad.add (k * 6)).off + 3, none⟩ = some (.string p) ∧ wr.cell? ⟨(ad.add (k * 6)).block, (ad.add (k * 6)).off + 4, none⟩ = some (.int .i64 letter) ∧ wr.cell? ⟨(ad.add (k * 6)).block, (ad.add (k * 6)).off + 5, none⟩ = some (.slice ya seen yc) ∧
      Calls Tryz.prog 58 #[.pointer (some ⟨b, 0, none⟩), .agg #[.int .i64 who, .int .i64 nn, .int .i64 what, .string p, .int .i64 letter, .slice ya seen yc]] wr (fun e w' => (∃ (is : Bool) (ke : Int), e = .returned (.tuple #[.bool is, errV ke])) ∧ DocAt w B b (n + 1) w') := by
  obtain ⟨st, S, D, hd, hok, hs, hn, hl, hbw⟩ := h
  obtain ⟨ad, rfl, hab, c0', c1', c2', c3', c4', c5'⟩ := ((hr.below hbw).more hbw.size).op hk
  have hgood := (hg _ (List.getElem_mem hk)).below hbw
  have hps := hgood.2.1
  have hfar : 0 < ys[k].op.seen.length → ∀ g ∈ ob ys[k].at_, g ∉ S := (hg _ (List.getElem_mem hk)).1.far (fun g hg => by have := (hd.own g hg).1; omega)
  have HA := apply_doc wr _ _ _ _ _ hd hok ys[k].op ys[k].at_ ys[k].cap (by unfold maxLen at hps; omega) hgood.1 hfar
  refine ⟨ad, _, _, _, _, _, _, _, _, rfl, c0', c1', c2', c3', c4', c5', HA.mono ?_⟩
  rintro e w' ⟨rfl, S', D', h1, h2, h3⟩
  refine ⟨⟨_, _, rfl⟩, _, S', D', h1, LDoc.apply_ok hok _, LDoc.apply_says hok hs _, LDoc.apply_numbered hok hs hn _, ?_, hbw.trans (h2.below hbw.size (fun g hg => by have := (hd.own g hg).1; omega))⟩
  rcases LDoc.apply_three (d := st) ys[k].op with ⟨_, _, q⟩ | ⟨_, _, q⟩ | ⟨_, _, q⟩
  · rw [q]; simp; omega
  · rw [q]; omega
  · rw [q]; omega
/-- What came of the ops is far from older rows: they read as before. -/
theorem DocAt.below {w wr : World} {B b n : Nat} (h : DocAt w B b n wr) : Below w.heap.size w wr := by
  obtain ⟨st, S, D, h1, h2, h3, h4, h5, h6⟩ := h
  exact h6
end Go.Proofs.YtnmmnejoldbeiaaGreatDoor
/- Package place, walked: numbers and letters. Conditions: stated with each. -/
namespace Go.Proofs.YtnmmnejoldbeiaaGreatDoor
open Go.RowKit
set_option linter.unusedVariables false


def LetsLoop (w : World) (x n : Nat) (i v : Value) (wr : World) : Prop :=
  ∃ (k y : Nat) (i' : Int) (tail : List UInt8), k ≤ n ∧ i' = (k : Int) - 1 ∧ i = .int .i64 i' ∧ v = .int .i64 y ∧ y ≤ 3670344486987776 ∧ lets x n = lets y k ++ tail ∧ tail.length = n - k ∧
    Blk wr w.heap.size 5 ((List.replicate k (Value.int .u8 0) ++ u8s tail).toArray) ∧ Below w.heap.size w wr
end Go.Proofs.YtnmmnejoldbeiaaGreatDoor
/- place.ready, walked. Conditions: stated with each. -/
namespace Go.Proofs.YtnmmnejoldbeiaaGreatDoor
open Go.RowKit
set_option linter.unusedVariables false


def ReadyLoop (w : World) (a b : ByteArray) (v : Value) (wr : World) : Prop :=
  ∃ k : Nat, k ≤ 2 ∧ v = .int .i64 k ∧ wr.cell? ⟨w.heap.size, 0, none⟩ = some (.string a) ∧ wr.cell? ⟨w.heap.size, 1, none⟩ = some (.string b) ∧ w.heap.size < wr.heap.size ∧ Below w.heap.size w wr ∧
    Hid (1 ≤ k → a.size = 0 ∨ placeErr a = 0) ∧ Hid (2 ≤ k → b.size = 0 ∨ placeErr b = 0)
end Go.Proofs.YtnmmnejoldbeiaaGreatDoor
/- Package place, walked: the first quarter, between, room. Conditions: stated with each. -/
namespace Go.Proofs.YtnmmnejoldbeiaaGreatDoor
open Go.RowKit
set_option linter.unusedVariables false

def QuarterLoop (w : World) (a b : ByteArray) (v s : Value) (wr : World) : Prop :=
  ∃ n S : Nat, n ≤ 11 ∧ v = .int .i64 ((n : Int) + 1) ∧ s = .int .i64 S ∧ Hid (S = 26 ^ n) ∧ Hid (quarter a b = quarterFrom a b (n + 1) (11 - n)) ∧ Below w.heap.size w wr
def QuarterPost (w : World) (a b : ByteArray) (e : Ending) (w' : World) : Prop := e = .returned (.string (strOf (quarter a b))) ∧ Below w.heap.size w w'

theorem high_le {a b : ByteArray} (lb : Letters b) (n : Nat) (hn : n ≤ 11) : high b n ≤ 3670344486987775 ∧ -1 ≤ high b n := by
  have h2 := pow26_le hn
  have h3 := numb_lt lb n
  unfold high
  split <;> omega
theorem from_next {a b : ByteArray} {n f : Nat} (h : many a b n < 1) : quarterFrom a b n (f + 1) = quarterFrom a b (n + 1) f := by
  rw [quarterFrom, if_pos h]
theorem from_here {a b : ByteArray} {n f : Nat} (h : ¬ many a b n < 1) : quarterFrom a b n (f + 1) = lets (val a b n) n := by
  rw [quarterFrom, if_neg h]
theorem many_low {a b : ByteArray} {n : Nat} (h : high b n < numb a n) : many a b n < 1 := by
  unfold many; rw [if_pos h]; decide
theorem many_eq {a b : ByteArray} {n : Nat} (h : ¬ high b n < numb a n) : many a b n = (high b n - high b n / 26) - ((numb a n : Int) - numb a n / 26) := by
  unfold many; rw [if_neg h]; unfold upTo; omega
theorem val_eq {a b : ByteArray} {n : Nat} (h : ¬ high b n < numb a n) (h1 : ¬ many a b n < 1) :
    (val a b n : Int) = ((numb a n : Int) - numb a n / 26 + (many a b n - 1) / 4) + ((numb a n : Int) - numb a n / 26 + (many a b n - 1) / 4) / 25 + 1 := by
  unfold val kth upTo; omega

end Go.Proofs.YtnmmnejoldbeiaaGreatDoor
/- Package place, walked: between. Conditions: texts no longer than an int may count. -/
namespace Go.Proofs.YtnmmnejoldbeiaaGreatDoor
open Go.RowKit
set_option linter.unusedVariables false

def roomErr (a b : ByteArray) : Int := if readyErr a b ≠ 0 then readyErr a b else if quarter a b = [] then 8 else 0
def betweenErr (a b : ByteArray) (who : Int) : Int := if who < 1 ∨ 8 < who then 1 else roomErr a b
def betweenRes (a b : ByteArray) (who : Int) : List UInt8 := if betweenErr a b who = 0 then quarter a b ++ [UInt8.ofNat (97 + who.toNat)] else []

theorem letters_empty {s : ByteArray} (h : s.size = 0) : Letters s := fun i hi => by omega
theorem ready_ok {a b : ByteArray} (h : readyErr a b = 0) : (a.size ≤ 12 ∧ Letters a) ∧ b.size ≤ 12 ∧ Letters b := by
  unfold readyErr at h
  split at h
  · rename_i h1; exact absurd h h1.2
  · rename_i h1
    split at h
    · rename_i h2; exact absurd h h2.2
    · rename_i h2
      constructor
      · by_cases hz : a.size = 0
        · exact ⟨by omega, letters_empty hz⟩
        · have hp : placeErr a = 0 := Decidable.byContradiction fun hp => h1 ⟨hz, hp⟩
          exact ⟨(okPlace hp).1, (okPlace hp).2.1⟩
      · by_cases hz : b.size = 0
        · exact ⟨by omega, letters_empty hz⟩
        · have hp : placeErr b = 0 := Decidable.byContradiction fun hp => h2 ⟨hz, hp⟩
          exact ⟨(okPlace hp).1, (okPlace hp).2.1⟩

theorem quarter_len {a b : ByteArray} : ∀ (f n : Nat), n + f ≤ 12 → (quarterFrom a b n f).length ≤ 11 := by
  intro f
  induction f with
  | zero => intro n _; simp [quarterFrom]
  | succ f ih =>
    intro n hn
    rw [quarterFrom]
    split
    · exact ih (n + 1) (by omega)
    · rw [lets_len]; omega
theorem quarter_le (a b : ByteArray) : (quarter a b).length ≤ 11 := quarter_len 11 1 (by omega)

def BetweenPost (w : World) (a b : ByteArray) (who : Int) (e : Ending) (w' : World) : Prop :=
  e = .returned (.tuple #[.string (strOf (betweenRes a b who)), errV (betweenErr a b who)]) ∧ Below w.heap.size w w'

end Go.Proofs.YtnmmnejoldbeiaaGreatDoor
/- Edits of a document: which ops they are, and ops done one behind the other. Plain. Conditions: none. -/
namespace Go.Proofs.YtnmmnejoldbeiaaGreatDoor
open Go.RowKit
set_option linter.unusedVariables false
/-- A maker of an author's next ops. -/
structure LMk where
  who : Int
  n : Int
  ops : List LOp
namespace LMk
def put (m : LMk) (o : LOp) : LOp := ⟨⟨m.who, m.n + 1⟩, o.what, o.place, o.letter, o.seen⟩
def add (m : LMk) (o : LOp) : LMk := ⟨m.who, m.n + 1, m.ops ++ [m.put o]⟩
def wr (m : LMk) (p : ByteArray) (c : Int) : LMk := m.add ⟨⟨0, 0⟩, 1, p, c, []⟩
def st (m : LMk) (p : ByteArray) : LMk := m.add ⟨⟨0, 0⟩, 2, p, 0, []⟩
def next (m : LMk) (left right : ByteArray) : ByteArray := strOf (betweenRes left right m.who)
/-- Letters one behind the other: the maker then, and what is wrong. -/
def typed (right : ByteArray) : List UInt8 → ByteArray → LMk → LMk × Int
  | [], _, m => (m, 0)
  | c :: t, left, m => if betweenErr left right m.who ≠ 0 then (m, betweenErr left right m.who) else typed right t (m.next left right) (m.wr (m.next left right) c.toNat)
/-- Letters from one offset to another one are struck. -/
def strikes (a b : Int) : List LLeaf → Int → LMk → LMk
  | [], _, m => m
  | x :: l, at_, m => if seenB x = true then strikes a b l (at_ + 1) (if a ≤ at_ ∧ at_ < b then m.st x.place else m) else strikes a b l at_ m
end LMk
def idxOf (l : List LLeaf) (off : Int) : Nat := if 0 < off then (nthFrom 0 l (off - 1)).toNat + 1 else 0
def leftOf (l : List LLeaf) (off : Int) : ByteArray := if 0 < off then (l.getD ((nthFrom 0 l (off - 1)).toNat) default).place else ⟨#[]⟩
def rightOf (l : List LLeaf) (i : Nat) : ByteArray := if i < l.length then (l.getD i default).place else ⟨#[]⟩
def badC (c : UInt8) : Bool := !letterB (c.toNat : Int)
def insErr (l : List LLeaf) (off : Int) (text : ByteArray) : Int := if 200 < text.size then 4 else if text.toList.any badC = true then 1 else if off < 0 ∨ ((textOf l).size : Int) < off then 1 else 0
namespace LMk
def ins (m : LMk) (l : List LLeaf) (off : Int) (text : ByteArray) : LMk × Int := if insErr l off text ≠ 0 then (m, insErr l off text) else typed (rightOf l (idxOf l off)) text.toList (leftOf l off) m
def del (m : LMk) (l : List LLeaf) (a b : Int) : LMk × Int := if a < 0 ∨ b < a ∨ ((textOf l).size : Int) < b then (m, 1) else (strikes a b l 0 m, 0)
end LMk
namespace LDoc
def maker (d : LDoc) (who : Int) : LMk := ⟨who, nOf d.known ⟨who, 0⟩, []⟩
def whoE (who : Int) : Int := if who < 1 ∨ 8 < who then 1 else 0
def insE (d : LDoc) (who off : Int) (text : ByteArray) : Int := if whoE who ≠ 0 then 1 else ((d.maker who).ins d.book off text).2
def insR (d : LDoc) (who off : Int) (text : ByteArray) : List LOp := if d.insE who off text = 0 then ((d.maker who).ins d.book off text).1.ops else []
def delE (d : LDoc) (who a b : Int) : Int := if whoE who ≠ 0 then 1 else ((d.maker who).del d.book a b).2
def delR (d : LDoc) (who a b : Int) : List LOp := if d.delE who a b = 0 then ((d.maker who).del d.book a b).1.ops else []
/-- The place of the letter at an offset. -/
def spot (d : LDoc) (off : Int) : ByteArray := (d.book.getD ((nthFrom 0 d.book off).toNat) default).place
def splE (d : LDoc) (who off : Int) : Int := if whoE who ≠ 0 then 1 else atErr d.book off
def splR (d : LDoc) (who off : Int) : List LOp := if d.splE who off = 0 then ((d.maker who).add ⟨⟨0, 0⟩, 3, d.spot off, 0, []⟩).ops else []
def fusE (d : LDoc) (who off : Int) : Int := if whoE who ≠ 0 then 1 else if atErr d.book off ≠ 0 then atErr d.book off else if seenAt d.marks (d.spot off) = [] then 5 else 0
def fusR (d : LDoc) (who off : Int) : List LOp := if d.fusE who off = 0 then ((d.maker who).add ⟨⟨0, 0⟩, 4, d.spot off, 0, seenAt d.marks (d.spot off)⟩).ops else []
/-- Ops one behind the other, till one is refused. -/
def doE (d : LDoc) : List LOp → Int
  | [] => 0
  | o :: t => if d.applyE o ≠ 0 then d.applyE o else (d.apply o).doE t
def doR (d : LDoc) : List LOp → LDoc
  | [] => d
  | o :: t => if d.applyE o ≠ 0 then d else (d.apply o).doR t
theorem doR_ok : ∀ (l : List LOp) {d : LDoc}, d.Ok → (d.doR l).Ok
  | [], _, h => h
  | o :: t, d, h => by
    unfold doR
    split
    · exact h
    · exact doR_ok t (apply_ok h o)
end LDoc
end Go.Proofs.YtnmmnejoldbeiaaGreatDoor
/- (*doc.Doc).Known, walked. Conditions: the document is right. -/
namespace Go.Proofs.YtnmmnejoldbeiaaGreatDoor
open Go.RowKit
set_option linter.unusedVariables false
set_option maxRecDepth 100000 in
theorem known_doc (w : World) (B : Nat) (S : List Nat) (b : Nat) (st : LDoc) (D : DLay) (h : DocIs w B S b st D) (ok : st.Ok) : Calls Tryz.prog 26 #[.pointer (some ⟨b, 0, none⟩)] w (RowPost w 3 1 st.known.length (ints st.known)) := by
  have HC := Lib.hid (cloneI w D.a3 st.known.length D.c3 (ints st.known) h.known.reads (oneCells_ints st.known) (Fits.of_small (by have := vec_ok ok.known; omega) (by decide)))
  have c0 : w.cell? ⟨b, 2, none⟩ = some (.slice D.a3 st.known.length D.c3) := by rw [h.blk.cell]; rfl
  clear h ok
  go_enter Tryz.func26, Tryz.ntmps26
  go_wp2_with fail
  refine HC.out.mono ?_
  rintro e w1 ⟨V, c, rfl, hO, hb⟩
  have HO := Lib.hid hO
  have HB := Lib.hid hb
  clear hO hb
  go_wp2_with fail
  go_ret
  exact ⟨V, c, rfl, HO.out, HB.out⟩
end Go.Proofs.YtnmmnejoldbeiaaGreatDoor
/- The o-th leaf that is seen: plain. Conditions: none. -/
namespace Go.Proofs.YtnmmnejoldbeiaaGreatDoor
set_option linter.unusedVariables false
theorem textL_cons (x : LLeaf) (l : List LLeaf) : textL (x :: l) = (if seenB x = true then [u8 x.letter] else []) ++ textL l := by
  unfold textL
  rw [List.filter_cons]
  split <;> simp
theorem nth_seen : ∀ (l : List LLeaf) (k o : Nat), o < (textL l).length → ∃ n, ∃ hn : n < l.length, nthFrom k l (o : Int) = ((k + n : Nat) : Int) ∧ seenB l[n] = true ∧ (textL (l.take n)).length = o := by
  intro l
  induction l with
  | nil => intro k o h; simp [textL] at h
  | cons x l ih =>
    intro k o h
    rw [textL_cons] at h
    unfold nthFrom
    by_cases hs : seenB x = true
    · rw [if_pos hs] at h ⊢
      rcases Nat.eq_zero_or_pos o with h0 | h0
      · subst h0
        exact ⟨0, by simp, by simp, hs, by simp [textL]⟩
      · obtain ⟨o', rfl⟩ : ∃ o', o = o' + 1 := ⟨o - 1, by omega⟩
        simp only [List.length_append, List.length_cons, List.length_nil] at h
        obtain ⟨n, hn, h1, h2, h3⟩ := ih (k + 1) o' (by omega)
        refine ⟨n + 1, by simp; omega, ?_, by simpa using h2, ?_⟩
        · rw [if_neg (by omega), show ((o' + 1 : Nat) : Int) - 1 = (o' : Int) by omega, h1]; omega
        · rw [List.take_succ_cons, textL_cons, if_pos hs]; simp [h3]
    · rw [if_neg hs] at h ⊢
      obtain ⟨n, hn, h1, h2, h3⟩ := ih (k + 1) o (by simpa using h)
      refine ⟨n + 1, by simp; omega, by rw [h1]; omega, by simpa using h2, ?_⟩
      rw [List.take_succ_cons, textL_cons, if_neg hs]; simpa using h3
end Go.Proofs.YtnmmnejoldbeiaaGreatDoor

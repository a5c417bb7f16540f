/- 4 texts in one: each says ahead of itself what is proved, and its conditions. -/
import Derived.Deep.CutBlock
import Derived.Deep.DeepCutAuto
import Derived.Deep.RegionHeld3
import Derived.Test.YtobdollnkndmeaaGreatDoorCard
import Derived.Test.YtobdollnkndmeaaGreatDoorHi
import Derived.Test.YtobdollnkndmeaaGreatDoorLift
import Derived.Test.YtobdollnkndmeaaGreatDoorOpen
import Derived.Test.YtobdollnkndmeaaGreatDoorStrs
/- The end of a line as plain data: what the program's package link does, and how it lies in memory. Conditions: none. -/
namespace Go.Proofs.YtobdollnkndmeaaGreatDoor
open Go.RowKit

structure LEnd where
  win : Nat
  wait : Nat
  data : List ByteArray
  acked : Nat
  said : Nat
  ticks : Nat
  got : List ByteArray
  owes : Bool

structure LFrame where
  ack : Bool
  seq : Int
  data : ByteArray

def LFrame.cells (f : LFrame) : List Value := [.bool f.ack, .int .i64 f.seq, .string f.data]
def fcells (l : List LFrame) : List Value := l.flatMap LFrame.cells
theorem fcells_append (a b : List LFrame) : fcells (a ++ b) = fcells a ++ fcells b := by simp [fcells]
theorem fcells_len (l : List LFrame) : (fcells l).length = l.length * 3 := by
  induction l with
  | nil => rfl
  | cons f l ih => simp [fcells, LFrame.cells] at ih ⊢; omega
theorem oneCells_f (l : List LFrame) : OneCells (fcells l) := by
  intro u hu
  obtain ⟨f, _, h⟩ := List.mem_flatMap.1 hu
  simp only [LFrame.cells, List.mem_cons, List.not_mem_nil, or_false] at h
  rcases h with rfl | rfl | rfl <;> rfl

def LEnd.new (win wait : Nat) : LEnd := ⟨win, wait, [], 0, 0, 0, [], false⟩
def LEnd.send (st : LEnd) (s : ByteArray) : LEnd := { st with data := st.data ++ [s] }
/-- How many frames of data it may say, from the first that is not acknowledged. -/
def LEnd.wide (st : LEnd) : Nat := min st.win st.data.length
/-- How many of these it passes over, as it said them already. -/
def LEnd.skip (st : LEnd) : Nat := if st.wait ≤ st.ticks then 0 else max st.said st.acked - st.acked
def LEnd.frame (st : LEnd) (j : Nat) : LFrame := ⟨false, st.acked + j + 1, st.data.getD j ⟨#[]⟩⟩
def LEnd.ackFrames (st : LEnd) : List LFrame := if st.owes then [⟨true, st.got.length, ⟨#[]⟩⟩] else []
def LEnd.outFrames (st : LEnd) : List LFrame := st.ackFrames ++ (List.range' st.skip (st.wide - st.skip)).map st.frame
def LEnd.out (st : LEnd) : LEnd := { st with owes := false, ticks := if st.skip < st.wide then 0 else st.ticks, said := max st.said (st.acked + st.wide) }
def LEnd.tick (st : LEnd) : LEnd := { st with ticks := st.ticks + 1 }
/-- What is wrong with a frame that is heard. -/
def LEnd.hearErr (st : LEnd) (f : LFrame) : Int :=
  if f.ack then (if f.seq < 0 ∨ (st.said : Int) < f.seq then 1 else if f.data.size ≠ 0 then 3 else 0)
  else (if f.seq < 1 then 1 else if 200 < f.data.size then 4 else 0)
def LEnd.hear (st : LEnd) (f : LFrame) : LEnd :=
  if st.hearErr f ≠ 0 then st
  else if f.ack then (if (st.acked : Int) < f.seq then { st with data := st.data.drop (f.seq.toNat - st.acked), acked := f.seq.toNat } else st)
  else { st with got := if f.seq = st.got.length + 1 then st.got ++ [f.data] else st.got, owes := true }

/-- What holds of each end. -/
structure LEnd.Ok (st : LEnd) : Prop where
  win1 : 1 ≤ st.win
  win2 : st.win ≤ 16
  wait1 : 1 ≤ st.wait
  wait2 : st.wait ≤ 20
  data : st.data.length ≤ 100
  acked : st.acked ≤ 100000
  said : st.said ≤ st.acked + st.data.length
  ticks : st.ticks ≤ 100000
  got : st.got.length ≤ 100000

/-- The cells of an end. -/
def LEnd.cells (st : LEnd) (A : Option Addr) (ca : Nat) (G : Option Addr) (cg : Nat) : Array Value :=
  #[.int .i64 st.win, .int .i64 st.wait, .slice A st.data.length ca, .int .i64 st.acked, .int .i64 st.said, .int .i64 st.ticks, .slice G st.got.length cg, .bool st.owes]

theorem elemS : Elem Tryz.prog 109 9 1 16 := Elem.mk_ (z := .string ⟨#[]⟩) Tryz.underlying109 (by kernel_rfl) rfl (by decide)
/-- The blocks of an end. -/
def endBlocks (b : Nat) (A G : Option Addr) : List Nat := b :: (ob A ++ ob G)
section
variable {w w' : World} {B b ca cg : Nat} {A G : Option Addr} {st : LEnd}
end
end Go.Proofs.YtobdollnkndmeaaGreatDoor
/- Arguments opened: texts, numbers. Plain lemmas. Conditions: none of our own. -/
namespace Go.Proofs.YtobdollnkndmeaaGreatDoor
open Go.RowKit Go.WideShapes Go.ChangeShapes Go.Deep
set_option linter.unusedVariables false
theorem cellsFInt : Tryz.prog.cellsOf 3 = 1 := by kernel_rfl
theorem cellsFStr : Tryz.prog.cellsOf 9 = 1 := by kernel_rfl
section
variable {H : Type} {enc : TypeId × Value → H} {w : World} {base : Nat} {spare : Nat → Bool} {held : Bool}
theorem flat_one {α : Type} (f : α → Value) (l : List α) : l.flatMap (fun x => [f x]) = l.map f := by
  induction l with
  | nil => rfl
  | cons x l ih => simp [List.flatMap_cons, ih]
set_option maxRecDepth 100000 in
theorem arg_strs {r : Reach} {b0 : Nat} {v : Value} {d : DataW H} {p : List MemPlace} (hv : Value.okWide Tryz.prog w r b0 109 v) (h : DataW.Trod enc Tryz.prog w base spare held 109 v d p) :
    ∃ (A : Option Addr) (cap : Nat) (l : List ByteArray), v = .slice A l.length cap ∧ Reads w w.heap.size 1 A l.length (strs l) ∧ (∀ y ∈ l, y.size ≤ maxLen) ∧ l.length ≤ cap ∧ cap ≤ maxLen := by
  obtain ⟨a, len, c, rfl⟩ := okWide_slice Tryz.underlying109 hv
  obtain ⟨fuel, hf⟩ := h
  obtain ⟨A, cap, l, e, hr, h2⟩ := open_list (α := ByteArray) (fun s => [.string s]) (fun s => s.size ≤ maxLen) Tryz.underlying109 cellsFStr (by decide) (fun _ => rfl) (fun _ cs _ h => by
    obtain ⟨s, e, _, hs⟩ := DataW.trod_string Tryz.underlying9 h
    exact ⟨s, e, hs⟩) hf
  rw [flat_one] at hr
  refine ⟨A, cap, l, ?_, hr, h2⟩
  have e' : [Value.slice a len c] = [.slice A l.length cap] := e
  injection e'
set_option maxRecDepth 100000 in
theorem arg_ints {r : Reach} {b0 : Nat} {v : Value} {d : DataW H} {p : List MemPlace} (hv : Value.okWide Tryz.prog w r b0 43 v) (h : DataW.Trod enc Tryz.prog w base spare held 43 v d p) :
    ∃ (A : Option Addr) (cap : Nat) (l : List Int), v = .slice A l.length cap ∧ Reads w w.heap.size 1 A l.length (l.map (Value.int .i64)) ∧ (∀ y ∈ l, I64 y) ∧ l.length ≤ cap ∧ cap ≤ maxLen := by
  obtain ⟨a, len, c, rfl⟩ := okWide_slice Tryz.underlying43 hv
  obtain ⟨fuel, hf⟩ := h
  obtain ⟨A, cap, l, e, hr, h2⟩ := open_list (α := Int) (fun s => [.int .i64 s]) I64 Tryz.underlying43 cellsFInt (by decide) (fun _ => rfl) (fun _ cs _ h => by
    obtain ⟨s, e, _, hs⟩ := DataW.trod_int Tryz.underlying3 h
    exact ⟨s, e, i64_of_wf hs⟩) hf
  rw [flat_one] at hr
  refine ⟨A, cap, l, ?_, hr, h2⟩
  have e' : [Value.slice a len c] = [.slice A l.length cap] := e
  injection e'
end
end Go.Proofs.YtobdollnkndmeaaGreatDoor
/- Arguments opened: frames, texts, numbers. Plain lemmas. Conditions: none of our own. -/
namespace Go.Proofs.YtobdollnkndmeaaGreatDoor
open Go.RowKit Go.WideShapes Go.ChangeShapes Go.Deep
set_option linter.unusedVariables false

instance : Inhabited LFrame := ⟨⟨false, 0, ⟨#[]⟩⟩⟩
def LFrame.In (x : LFrame) : Prop := x.data.size ≤ maxLen ∧ I64 x.seq
theorem cellsFBool : Tryz.prog.cellsOf 4 = 1 := by kernel_rfl
section
variable {H : Type} {enc : TypeId × Value → H} {w : World} {base : Nat} {spare : Nat → Bool} {held : Bool}
end
end Go.Proofs.YtobdollnkndmeaaGreatDoor
/- leaflaw4.CursorEnds, proved: of a book each cursor is where it was anchored, and what stands between two of them is that part of what is seen. Conditions: none of our own. -/
namespace Go.Proofs.YtobdollnkndmeaaGreatDoor
open Go.RowKit Go.WideShapes Go.ChangeShapes Go.ChangeAt
set_option linter.unusedVariables false
namespace lawCursorEnds
theorem hi_range : rngErr hiDoc.book ⟨#[]⟩ ⟨#[]⟩ = 0 ∧ rngRes hiDoc.book ⟨#[]⟩ ⟨#[]⟩ = ⟨#[]⟩ := by decide +kernel
theorem anch_size {l : List LLeaf} (hb : BookOk l) (at_ : Int) : (anchRes l at_).size ≤ 12 := by
  unfold anchRes
  split
  · rw [List.getD]
    rcases Nat.lt_or_ge ((nthFrom 0 l at_).toNat) l.length with h | h
    · rw [List.getElem?_eq_getElem h]
      exact place_small (hb.leafs _ (List.getElem_mem h)).place
    · rw [List.getElem?_eq_none h]; exact Nat.zero_le _
  · exact Nat.zero_le _
theorem anch_err {l : List LLeaf} (hb : BookOk l) (at_ : Int) : (anchErr l at_ = 0 ∧ 0 ≤ at_ ∧ at_ ≤ ((textOf l).size : Int)) ∨ (anchErr l at_ ≠ 0 ∧ (at_ < 0 ∨ ((textOf l).size : Int) < at_)) := by
  have hz := bookErr_zero hb
  unfold anchErr
  rw [if_neg (by omega)]
  split
  · exact .inr ⟨by omega, by assumption⟩
  · exact .inl ⟨rfl, by omega, by omega⟩
/-- What the law says of a book that is right. -/
theorem plain {l : List LLeaf} (hb : BookOk l) {a b : Int} (ha0 : 0 ≤ a) (ha1 : a ≤ ((textOf l).size : Int)) (hb0 : 0 ≤ b) (hb1 : b ≤ ((textOf l).size : Int)) :
    (b < a → rngErr l (anchRes l a) (anchRes l b) = 3) ∧ (a ≤ b → rngErr l (anchRes l a) (anchRes l b) = 0 ∧ rngRes l (anchRes l a) (anchRes l b) = (textOf l).extract a.toNat b.toNat) := by
  obtain ⟨x1, x2⟩ := anch_ok hb ha0 ha1
  obtain ⟨y1, y2⟩ := anch_ok hb hb0 hb1
  have hz := bookErr_zero hb
  have hr : resErr l (anchRes l a) = 0 := by unfold resErr; rw [if_neg (by omega)]; exact x1
  refine ⟨fun h => ?_, fun h => ?_⟩
  · unfold rngErr
    rw [if_neg (by omega), if_neg (by omega), if_pos (by omega)]
  · have he : rngErr l (anchRes l a) (anchRes l b) = 0 := by
      unfold rngErr
      rw [if_neg (by omega), if_neg (by omega), if_neg (by omega)]
    refine ⟨he, ?_⟩
    unfold rngRes
    rw [if_pos he]
    congr 1 <;> omega
set_option maxRecDepth 100000 in
set_option maxHeartbeats 8000000 in
theorem walk (w : World) (A0 : Option Addr) (c0 : Nat) (ys : List OpAt) (a b : Int) (hglob : Glob w) (h0 : Reads w w.heap.size 6 A0 ys.length (ocells ys)) (hg : ∀ y ∈ ys, y.Good w)
    (hn0 : ys.length ≤ 9223372036854775807) (ha0 : -9223372036854775808 ≤ a) (ha1 : a ≤ 9223372036854775807) (hb0 : -9223372036854775808 ≤ b) (hb1 : b ≤ 9223372036854775807) :
    Calls Tryz.prog 5 #[.slice A0 ys.length c0, .int .i64 a, .int .i64 b] w (CheckPost w (.bool true)) := by
  have HR0 := Lib.hid h0
  have HG := Lib.hid hg
  have HGL := Lib.hid hglob
  have HE0 : errV 0 = .nilIface := rfl
  have HN := Lib.hid (new_doc w)
  clear h0 hg hglob
  go_enter Tryz.func5, Tryz.ntmps5
  go_wp2_with fail
  refine HN.out.mono ?_
  rintro e w1 ⟨b1, S1, D1, rfl, hd1, hb1'⟩
  have HD1 := Lib.hid hd1
  have HB1 := Lib.hid hb1'
  have HI := Lib.hid (insert_any w1 _ _ _ _ _ hd1 LDoc.new_ok 1 0 hiT (by decide) (by decide) (by decide) (by decide))
  unfold EditPost at HI
  rw [hi_ins] at HI
  clear hd1 hb1' HN
  go_wp2_with fail
  refine HI.out.mono ?_
  rintro e w2 ⟨V2, c2, zs, rfl, hz1, hz2, hb2⟩
  rw [HE0]
  have HDO := Lib.hid (do_ins HD1.out LDoc.new_ok hz1 hz2 hb2)
  rw [hi_do] at HDO
  have HB2 := Lib.hid (HB1.out.trans (hb2.mono HB1.out.size))
  have HS1 : Hid (∀ g ∈ S1, w.heap.size ≤ g) := fun g hg => (HD1.out.own g hg).1
  clear hz1 hz2 hb2 HI HD1 HB1
  go_wp2_with fail
  refine HDO.out.mono ?_
  rintro e w3 ⟨rfl, S3, D3, hd3, ho3, hs3⟩
  rw [HE0]
  have HB3 := Lib.hid (HB2.out.trans (ho3.below HB2.out.size HS1.out))
  have HBK := Lib.hid (book_doc w3 _ _ _ _ _ hd3 hi_ok)
  clear hd3 ho3 hs3 HDO HB2
  go_wp2_with fail
  refine HBK.out.mono ?_
  rintro e w4 ⟨V4, c4, rfl, hO, hb⟩
  have HRG := Lib.hid (range_any w4 V4 c4 hiDoc.book hO.reads (sized_ok hi_ok.book) hO.cap_le (by have := hO.cap_max; unfold maxLen at this; omega) ⟨#[]⟩ ⟨#[]⟩ (by decide) (by decide))
  unfold StrPost at HRG
  rw [hi_range.1, hi_range.2] at HRG
  have HB4 := Lib.hid (HB3.out.trans (hb.mono HB3.out.size))
  clear hO hb HBK HB3
  go_wp2_with fail
  refine HRG.out.mono ?_
  rintro e w6 ⟨rfl, hb⟩
  rw [HE0]
  have HB6 := Lib.hid (HB4.out.trans (hb.mono HB4.out.size))
  have HN := Lib.hid (new_doc w6)
  clear hb HRG HB4
  go_wp2_with fail
  refine HN.out.mono ?_
  rintro e w7 ⟨bd, S0, D0, rfl, hd0, hb2⟩
  have HD0 : Hid (DocAt w w6.heap.size bd 0 w7) := DocAt.new hd0 (HB6.out.trans (hb2.mono HB6.out.size)) 0
  have hB : w.heap.size ≤ w6.heap.size := HB6.out.size
  clear hd0 hb2 HN HB6
  go_upto_block 0 with (fail)
  go_cut [11] (fun _ wx => DocAt w w6.heap.size bd 60 wx)
  case first =>
    go_wp2_with fail
    go_loopw [11] (fun i wr => DocLoop w w6.heap.size bd i wr) (fun i _ => 60 - (intOf i).toNat)
    case atStart => exact ⟨0, by omega, rfl, HD0.out⟩
    case round =>
      obtain ⟨k, hk, rfl, HK⟩ := hrel
      have k0 : (0 : Int) ≤ (k : Int) := by omega
      by_cases h1 : k < ys.length
      · have k1 : (k : Int) < (ys.length : Int) := by omega
        by_cases h2 : k < 60
        · have k2 : (k : Int) < 60 := by omega
          obtain ⟨ad, who', nn, what, p', letter', seen, ya, yc, rfl, d0, d1, d2, d3, d4, d5, hC⟩ := HK.out.round hB HR0.out HG.out h1
          have HC := Lib.hid hC
          clear hC HK
          go_wp2_with fail
          refine HC.out.mono ?_
          rintro e w6 ⟨⟨is, ke, rfl⟩, hD⟩
          have HDX := Lib.hid hD
          clear hD HC
          go_wp2_with fail
          go_roundw
          case rel => exact ⟨k + 1, by omega, by go_num, HDX.out⟩
          case measure => simp [intOf]; omega
        · have k2 : ¬ (k : Int) < 60 := by omega
          have HF := Lib.hid (HK.out.more (m := 60) (by omega))
          go_wp2_with fail
          go_meet
          case rel => exact HF.out
      · have k1 : ¬ (k : Int) < (ys.length : Int) := by omega
        have HF := Lib.hid (HK.out.more (m := 60) (by omega))
        go_wp2_with fail
        go_meet
        case rel => exact HF.out
  case rest =>

    obtain ⟨st, S, D, hd, hok, hs, hnn, hl, hbw⟩ := hcut
    obtain ⟨w8, hw8⟩ : ∃ x : World, x = wc := ⟨_, rfl⟩
    subst hw8
    have HD := Lib.hid hd
    have HOK := Lib.hid hok
    have HB8 := Lib.hid hbw
    have hfew := hok.book.few
    have HSZ := Lib.hid (sized_ok hok.book)
    have htl : (textOf st.book).size ≤ 300 := by have := textL_le st.book; rw [show (textOf st.book).size = (textL st.book).length from strOf_size _]; omega
    have HTX := Lib.hid (text_doc w8 _ _ _ _ _ hd hok)
    clear hd hok hs hnn hbw
    generalize w6.heap.size = B at *
    go_wp2_with fail
    refine HTX.out.mono ?_
    rintro e w9 ⟨rfl, hb⟩
    have HD := Lib.hid (HD.out.below hb)
    have HB9 := Lib.hid (HB8.out.trans (hb.mono HB8.out.size))
    have HBK := Lib.hid (book_doc w9 _ _ _ _ _ HD.out HOK.out)
    clear hb HTX HB8
    go_wp2_with fail
    refine HBK.out.mono ?_
    rintro e w10 ⟨V, c, rfl, hO, hb⟩
    have HAC := Lib.hid (anchor_any w10 V c st.book hO.reads HSZ.out hO.cap_le (by have := hO.cap_max; unfold maxLen at this; omega) a ha1)
    have HD := Lib.hid (HD.out.below hb)
    have HB10 := Lib.hid (HB9.out.trans (hb.mono HB9.out.size))
    unfold StrPost at HAC
    clear hO hb HBK HB9
    obtain ⟨ev, hev⟩ : ∃ ev, ev = errV (anchErr st.book a) := ⟨_, rfl⟩
    rw [← hev] at HAC
    have HEV := Lib.hid hev
    clear hev
    go_wp2_with fail
    refine HAC.out.mono ?_
    rintro e w11 ⟨rfl, hb⟩
    have HD := Lib.hid (HD.out.below hb)
    have HB11 := Lib.hid (HB10.out.trans (hb.mono HB10.out.size))
    have HBK := Lib.hid (book_doc w11 _ _ _ _ _ HD.out HOK.out)
    clear hb HAC HB10
    go_wp2_with fail
    refine HBK.out.mono ?_
    rintro e w12 ⟨V, c, rfl, hO, hb⟩
    have HAC := Lib.hid (anchor_any w12 V c st.book hO.reads HSZ.out hO.cap_le (by have := hO.cap_max; unfold maxLen at this; omega) b hb1)
    have HD := Lib.hid (HD.out.below hb)
    have HB12 := Lib.hid (HB11.out.trans (hb.mono HB11.out.size))
    unfold StrPost at HAC
    clear hO hb HBK HB11
    obtain ⟨ev2, hev2⟩ : ∃ ev, ev = errV (anchErr st.book b) := ⟨_, rfl⟩
    rw [← hev2] at HAC
    have HEV2 := Lib.hid hev2
    clear hev2
    go_wp2_with fail
    refine HAC.out.mono ?_
    rintro e w13 ⟨rfl, hb⟩
    have HD := Lib.hid (HD.out.below hb)
    have HB13 := Lib.hid (HB12.out.trans (hb.mono HB12.out.size))
    have HBK := Lib.hid (book_doc w13 _ _ _ _ _ HD.out HOK.out)
    clear hb HAC HB12
    rcases anch_err HOK.out.book a with ⟨ea, a0, a1⟩ | ⟨ea, ha⟩
    · rcases anch_err HOK.out.book b with ⟨eb, b0, b1⟩ | ⟨eb, hbb⟩
      · have hp := plain HOK.out.book a0 a1 b0 b1
        have hs1 := anch_size HOK.out.book a
        have hs2 := anch_size HOK.out.book b
        have e1 : ev = .nilIface := by rw [HEV.out, ea]; rfl
        have e2 : ev2 = .nilIface := by rw [HEV2.out, eb]; rfl
        rw [e1, e2]
        have HP := Lib.hid hp
        have HKE := Lib.hid (fun W (hb : Below w.heap.size w W) k => error_any W k 3 (HGL.out.below hb (Nat.le_refl _)))
        clear e1 e2 ea eb hp HEV HEV2
        generalize anchRes st.book a = p at *
        generalize anchRes st.book b = q at *
        go_wp2_with fail
        refine HBK.out.mono ?_
        rintro e w14 ⟨V, c, rfl, hO, hb⟩
        have HRG := Lib.hid (range_any w14 V c st.book hO.reads HSZ.out hO.cap_le (by have := hO.cap_max; unfold maxLen at this; omega) p q (by omega) (by omega))
        have HB14 := Lib.hid (HB13.out.trans (hb.mono HB13.out.size))
        unfold StrPost at HRG
        clear hO hb HBK HB13
        by_cases hab : b < a
        · have hq := HP.out.1 hab
          have HE3 := errV_ne (show (3 : Int) ≠ 0 by decide)
          rw [hq] at HRG
          have HKE := Lib.hid (fun W hb => HKE.out W hb 3)
          rw [HE3] at HKE HRG
          clear HP hq
          generalize rngRes st.book p q = s at *
          go_wp2_with fail
          refine HRG.out.mono ?_
          rintro e w15 ⟨rfl, hb⟩
          have HB15 := Lib.hid (HB14.out.trans (hb.mono HB14.out.size))
          have HK := Lib.hid (HKE.out _ HB15.out)
          clear hb HRG HB14
          go_wp2_with fail
          refine HK.out.mono ?_
          rintro e w16 ⟨rfl, hb⟩
          have HB16 := Lib.hid (HB15.out.trans (hb.mono HB15.out.size))
          clear hb
          go_wp2_with fail
          go_ret
          exact ⟨rfl, HB16.out⟩
        · obtain ⟨h1, h2⟩ := HP.out.2 (by omega)
          rw [h1, h2] at HRG
          clear h1 h2 HP
          generalize textOf st.book = tx at *
          go_wp2_with fail
          refine HRG.out.mono ?_
          rintro e w15 ⟨rfl, hb⟩
          rw [HE0]
          have HB15 := Lib.hid (HB14.out.trans (hb.mono HB14.out.size))
          clear hb HRG HB14
          go_wp2_with fail
          go_ret
          exact ⟨by simp, HB15.out⟩
      · have e1 : ev = .nilIface := by rw [HEV.out, ea]; rfl
        have e2 := HEV2.out
        rw [errV_ne eb] at e2
        rw [e1, e2]
        clear e1 e2 ea HEV HEV2 HBK HD
        generalize anchErr st.book b = kb at *
        generalize anchRes st.book a = p at *
        generalize anchRes st.book b = q at *
        generalize textOf st.book = tx at *
        have n1 : ¬ a < 0 := by omega
        have n2 : ¬ (tx.size : Int) < a := by omega
        clear eb
        rcases hbb with hbb | hbb
        · go_wp2_with fail
          go_ret
          exact ⟨by simp [n1, n2, hbb], HB13.out⟩
        · by_cases n3 : b < 0
          · go_wp2_with fail
            go_ret
            exact ⟨by simp [n1, n2, n3], HB13.out⟩
          · go_wp2_with fail
            go_ret
            exact ⟨by simp [n1, n2, n3, hbb], HB13.out⟩
    · have e1 := HEV.out
      rw [errV_ne ea] at e1
      rw [e1]
      clear e1 ea HEV HBK HD
      generalize anchErr st.book a = ka at *
      generalize anchRes st.book a = p at *
      generalize anchRes st.book b = q at *
      generalize textOf st.book = tx at *
      rcases ha with ha | ha
      · go_wp2_with fail
        go_ret
        exact ⟨by simp [ha], HB13.out⟩
      · by_cases n1 : a < 0
        · go_wp2_with fail
          go_ret
          exact ⟨by simp [n1], HB13.out⟩
        · go_wp2_with fail
          go_ret
          exact ⟨by simp [n1, ha], HB13.out⟩
set_option maxRecDepth 100000 in
theorem lifted (os : Os) (started : os.Started) (H : Type) (enc : TypeId × Value → H) :
    ReturnsInHanded {} Tryz.checked os 5 .any (fun w args => (Rows.cursorEndsSpec.pre enc Tryz.prog Tryz.f5 [] false w args ∧ laidMetH Tryz.prog Card.laid w) ∧ sizedMet enc Tryz.prog Tryz.f5 (OpenSpec.ofChange Rows.cursorEndsSpec) false w args)
      (Rows.cursorEndsSpec.post enc Tryz.prog Tryz.f5 false true false false) := by
  refine returnsInHanded_of_change_and (C := Tryz.checked) (X := fun w _ => laidMetH Tryz.prog Card.laid w) (fun _ _ _ hh h => h.of_heap hh) Tryz.own started (by kernel_rfl) Tryz.func5
    (ChangeSpec.witness_at (enc := enc) (C := Tryz.checked) (os := os) (X := fun w _ => laidMetH Tryz.prog Card.laid w) false (Card.laidWorld os) #[.slice none 0 0, .int .i64 0, .int .i64 0] 8 rfl (by kernel_rfl) (by kernel_rfl) (by kernel_rfl) (by kernel_rfl) (by kernel_rfl) (Card.laidWorld_met os _)) ?_
  intro W base args ds gs before hval0 hW _ hsz0 hL _
  have hval : ∀ (j : Nat) t v, Tryz.f5.params[j]? = some t → args[j]? = some v → Value.okWide Tryz.prog W .any base t v := hval0
  obtain ⟨p, q, hA0, _⟩ := id hW
  have hA : DataW.TrodAll enc Tryz.prog W 0 (fun _ => true) true Tryz.f5.params.toList args.toList ds p := hA0
  have hsz : (DataW.weightsEach Tryz.prog (Tryz.f5.params.toList ++ Rows.cursorEndsSpec.plain.varTypes Tryz.prog) (ds ++ gs)).all (· ≤ reachBytes) = true := hsz0
  rw [Tryz.params5] at hA hval hsz
  obtain ⟨v0, v1, v2, d0, d1, d2, p0, p1, p2, rfl, rfl, rfl, h0, h1, h2⟩ := trodAll_three hA
  obtain ⟨A0, c0, l0, rfl, r0, g0, lc0, cm0⟩ := arg_ops (hval 0 22 v0 rfl rfl) h0
  obtain ⟨a1, rfl, rfl, rfl, wa1⟩ := open_int Tryz.underlying3 (hval 1 3 v1 rfl rfl) h1
  obtain ⟨a2, rfl, rfl, rfl, wa2⟩ := open_int Tryz.underlying3 (hval 2 3 v2 rfl rfl) h2
  refine (walk W A0 c0 l0 a1 a2 (Card.glob_of_laid hL) r0 g0 (by unfold maxLen at cm0; omega) (i64_of_wf wa1).1 (i64_of_wf wa1).2 (i64_of_wf wa2).1 (i64_of_wf wa2).2).mono fun e W' ⟨he, hb⟩ => ⟨_, he, ?_⟩
  exact law_post Tryz.laidOut (tb := 4) (by kernel_rfl) Tryz.underlying4 (by rw [Tryz.params5]; simp only [List.mem_cons, List.not_mem_nil, or_false]; rintro t (rfl | rfl | rfl) <;> exact ⟨by kernel_rfl, of_decide_eq_true (by kernel_rfl)⟩) rfl rfl hW hb

theorem holds : Rows.CursorEndsSaid :=
  OpenClaim.holds_of_wide 5 Tryz.f5 rfl rfl rfl rfl rfl rfl rfl ⟨rfl, rfl, rfl, rfl, rfl⟩ rfl rfl rfl rfl rfl (by kernel_rfl) Tryz.func5 (by kernel_rfl)
    (of_decide_eq_true (by kernel_rfl)) (by unfold Func.isWrapper; first | (rw [if_pos (by decide +kernel)]; kernel_rfl) | (rw [if_neg (by decide +kernel)]; exact ⟨rfl, rfl⟩))
    (fun os started H enc _ => lifted os started H enc)
theorem noStand : ∀ t ∈ Tryz.f5.params.toList, Tryz.prog.wantsStandIn t = false := by
  rw [Tryz.params5]
  simp only [List.mem_cons, List.not_mem_nil, or_false]
  rintro t (rfl | rfl | rfl) <;> kernel_rfl
theorem card_holds : Rows.CursorEndsCardSaid :=
  Claim7.holds_tied_plain_at .later [] [.handle] true Rows.cursorEndsCard.stood.harness true
    holds (fun _ h => by cases h) (by kernel_rfl) (fun _ h => by cases h) cursorEnds_row_tie rfl ⟨rfl, rfl⟩ (by kernel_rfl) rfl
    (fun f fn hf hfn => by
      obtain rfl : f = 5 := Option.some.inj ((show Tryz.prog.funcNamed Rows.cursorEndsRow.func = some 5 by kernel_rfl).symm.trans hf) |>.symm
      obtain rfl : fn = Tryz.f5 := (Option.some.inj (Tryz.func5.symm.trans hfn)).symm
      exact ⟨by kernel_rfl, fun j t ht => noStand t (by
        have := Array.mem_of_getElem? ht
        simpa using this)⟩)
    (by kernel_rfl)
#print axioms card_holds
end lawCursorEnds
end Go.Proofs.YtobdollnkndmeaaGreatDoor

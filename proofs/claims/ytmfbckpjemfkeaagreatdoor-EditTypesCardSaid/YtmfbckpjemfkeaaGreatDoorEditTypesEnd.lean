/- 5 texts in one: each says ahead of itself what is proved, and its conditions. -/
import Derived.Deep.CutBlock
import Derived.Deep.DeepCutAuto
import Derived.Deep.RegionHeld3
import Derived.Test.YtmfbckpjemfkeaaGreatDoorCard
import Derived.Test.YtmfbckpjemfkeaaGreatDoorDocs2
import Derived.Test.YtmfbckpjemfkeaaGreatDoorLift
import Derived.Test.YtmfbckpjemfkeaaGreatDoorOpen
import Derived.Test.YtmfbckpjemfkeaaGreatDoorStrs
import Derived.Test.YtmfbckpjemfkeaaGreatDoorSyncBoth
import Derived.Test.YtmfbckpjemfkeaaGreatDoorTypesLaw
/- The end of a line as plain data: what the program's package link does, and how it lies in memory. Conditions: none. -/
namespace Go.Proofs.YtmfbckpjemfkeaaGreatDoor
open Go.RowKit

structure LEnd where
  win : Nat
  wait : Nat
  data : List ByteArray
  acked : Nat
  said : Nat
  ticks : Nat
  got : List ByteArray
  owes : Bool

structure LFrame where
  ack : Bool
  seq : Int
  data : ByteArray

def LFrame.cells (f : LFrame) : List Value := [.bool f.ack, .int .i64 f.seq, .string f.data]
def fcells (l : List LFrame) : List Value := l.flatMap LFrame.cells
theorem fcells_append (a b : List LFrame) : fcells (a ++ b) = fcells a ++ fcells b := by simp [fcells]
theorem fcells_len (l : List LFrame) : (fcells l).length = l.length * 3 := by
  induction l with
  | nil => rfl
  | cons f l ih => simp [fcells, LFrame.cells] at ih ⊢; omega
theorem oneCells_f (l : List LFrame) : OneCells (fcells l) := by
  intro u hu
  obtain ⟨f, _, h⟩ := List.mem_flatMap.1 hu
  simp only [LFrame.cells, List.mem_cons, List.not_mem_nil, or_false] at h
  rcases h with rfl | rfl | rfl <;> rfl

def LEnd.new (win wait : Nat) : LEnd := ⟨win, wait, [], 0, 0, 0, [], false⟩
def LEnd.send (st : LEnd) (s : ByteArray) : LEnd := { st with data := st.data ++ [s] }
/-- How many frames of data it may say, from the first that is not acknowledged. -/
def LEnd.wide (st : LEnd) : Nat := min st.win st.data.length
/-- How many of these it passes over, as it said them already. -/
def LEnd.skip (st : LEnd) : Nat := if st.wait ≤ st.ticks then 0 else max st.said st.acked - st.acked
def LEnd.frame (st : LEnd) (j : Nat) : LFrame := ⟨false, st.acked + j + 1, st.data.getD j ⟨#[]⟩⟩
def LEnd.ackFrames (st : LEnd) : List LFrame := if st.owes then [⟨true, st.got.length, ⟨#[]⟩⟩] else []
def LEnd.outFrames (st : LEnd) : List LFrame := st.ackFrames ++ (List.range' st.skip (st.wide - st.skip)).map st.frame
def LEnd.out (st : LEnd) : LEnd := { st with owes := false, ticks := if st.skip < st.wide then 0 else st.ticks, said := max st.said (st.acked + st.wide) }
def LEnd.tick (st : LEnd) : LEnd := { st with ticks := st.ticks + 1 }
/-- What is wrong with a frame that is heard. -/
def LEnd.hearErr (st : LEnd) (f : LFrame) : Int :=
  if f.ack then (if f.seq < 0 ∨ (st.said : Int) < f.seq then 1 else if f.data.size ≠ 0 then 3 else 0)
  else (if f.seq < 1 then 1 else if 200 < f.data.size then 4 else 0)
def LEnd.hear (st : LEnd) (f : LFrame) : LEnd :=
  if st.hearErr f ≠ 0 then st
  else if f.ack then (if (st.acked : Int) < f.seq then { st with data := st.data.drop (f.seq.toNat - st.acked), acked := f.seq.toNat } else st)
  else { st with got := if f.seq = st.got.length + 1 then st.got ++ [f.data] else st.got, owes := true }

/-- What holds of each end. -/
structure LEnd.Ok (st : LEnd) : Prop where
  win1 : 1 ≤ st.win
  win2 : st.win ≤ 16
  wait1 : 1 ≤ st.wait
  wait2 : st.wait ≤ 20
  data : st.data.length ≤ 100
  acked : st.acked ≤ 100000
  said : st.said ≤ st.acked + st.data.length
  ticks : st.ticks ≤ 100000
  got : st.got.length ≤ 100000

/-- The cells of an end. -/
def LEnd.cells (st : LEnd) (A : Option Addr) (ca : Nat) (G : Option Addr) (cg : Nat) : Array Value :=
  #[.int .i64 st.win, .int .i64 st.wait, .slice A st.data.length ca, .int .i64 st.acked, .int .i64 st.said, .int .i64 st.ticks, .slice G st.got.length cg, .bool st.owes]

theorem elemS : Elem Tryz.prog 267 9 1 16 := Elem.mk_ (z := .string ⟨#[]⟩) Tryz.underlying267 (by kernel_rfl) rfl (by decide)
/-- The blocks of an end. -/
def endBlocks (b : Nat) (A G : Option Addr) : List Nat := b :: (ob A ++ ob G)
section
variable {w w' : World} {B b ca cg : Nat} {A G : Option Addr} {st : LEnd}
end
end Go.Proofs.YtmfbckpjemfkeaaGreatDoor
/- Arguments opened: texts, numbers. Plain lemmas. Conditions: none of our own. -/
namespace Go.Proofs.YtmfbckpjemfkeaaGreatDoor
open Go.RowKit Go.WideShapes Go.ChangeShapes Go.Deep
set_option linter.unusedVariables false
theorem cellsFInt : Tryz.prog.cellsOf 3 = 1 := by kernel_rfl
theorem cellsFStr : Tryz.prog.cellsOf 9 = 1 := by kernel_rfl
section
variable {H : Type} {enc : TypeId × Value → H} {w : World} {base : Nat} {spare : Nat → Bool} {held : Bool}
theorem flat_one {α : Type} (f : α → Value) (l : List α) : l.flatMap (fun x => [f x]) = l.map f := by
  induction l with
  | nil => rfl
  | cons x l ih => simp [List.flatMap_cons, ih]
set_option maxRecDepth 100000 in
theorem arg_strs {r : Reach} {b0 : Nat} {v : Value} {d : DataW H} {p : List MemPlace} (hv : Value.okWide Tryz.prog w r b0 267 v) (h : DataW.Trod enc Tryz.prog w base spare held 267 v d p) :
    ∃ (A : Option Addr) (cap : Nat) (l : List ByteArray), v = .slice A l.length cap ∧ Reads w w.heap.size 1 A l.length (strs l) ∧ (∀ y ∈ l, y.size ≤ maxLen) ∧ l.length ≤ cap ∧ cap ≤ maxLen := by
  obtain ⟨a, len, c, rfl⟩ := okWide_slice Tryz.underlying267 hv
  obtain ⟨fuel, hf⟩ := h
  obtain ⟨A, cap, l, e, hr, h2⟩ := open_list (α := ByteArray) (fun s => [.string s]) (fun s => s.size ≤ maxLen) Tryz.underlying267 cellsFStr (by decide) (fun _ => rfl) (fun _ cs _ h => by
    obtain ⟨s, e, _, hs⟩ := DataW.trod_string Tryz.underlying9 h
    exact ⟨s, e, hs⟩) hf
  rw [flat_one] at hr
  refine ⟨A, cap, l, ?_, hr, h2⟩
  have e' : [Value.slice a len c] = [.slice A l.length cap] := e
  injection e'
set_option maxRecDepth 100000 in
theorem arg_ints {r : Reach} {b0 : Nat} {v : Value} {d : DataW H} {p : List MemPlace} (hv : Value.okWide Tryz.prog w r b0 43 v) (h : DataW.Trod enc Tryz.prog w base spare held 43 v d p) :
    ∃ (A : Option Addr) (cap : Nat) (l : List Int), v = .slice A l.length cap ∧ Reads w w.heap.size 1 A l.length (l.map (Value.int .i64)) ∧ (∀ y ∈ l, I64 y) ∧ l.length ≤ cap ∧ cap ≤ maxLen := by
  obtain ⟨a, len, c, rfl⟩ := okWide_slice Tryz.underlying43 hv
  obtain ⟨fuel, hf⟩ := h
  obtain ⟨A, cap, l, e, hr, h2⟩ := open_list (α := Int) (fun s => [.int .i64 s]) I64 Tryz.underlying43 cellsFInt (by decide) (fun _ => rfl) (fun _ cs _ h => by
    obtain ⟨s, e, _, hs⟩ := DataW.trod_int Tryz.underlying3 h
    exact ⟨s, e, i64_of_wf hs⟩) hf
  rw [flat_one] at hr
  refine ⟨A, cap, l, ?_, hr, h2⟩
  have e' : [Value.slice a len c] = [.slice A l.length cap] := e
  injection e'
end
end Go.Proofs.YtmfbckpjemfkeaaGreatDoor
/- Arguments opened: frames, texts, numbers. Plain lemmas. Conditions: none of our own. -/
namespace Go.Proofs.YtmfbckpjemfkeaaGreatDoor
open Go.RowKit Go.WideShapes Go.ChangeShapes Go.Deep
set_option linter.unusedVariables false

instance : Inhabited LFrame := ⟨⟨false, 0, ⟨#[]⟩⟩⟩
def LFrame.In (x : LFrame) : Prop := x.data.size ≤ maxLen ∧ I64 x.seq
theorem cellsFBool : Tryz.prog.cellsOf 4 = 1 := by kernel_rfl
section
variable {H : Type} {enc : TypeId × Value → H} {w : World} {base : Nat} {spare : Nat → Bool} {held : Bool}
end
end Go.Proofs.YtmfbckpjemfkeaaGreatDoor
/- leaflaw4.EditTypes, proved: a text that is typed stands there, letter by letter or at once. Conditions: the library's one variable holds what its text lays (the card ties it). -/
namespace Go.Proofs.YtmfbckpjemfkeaaGreatDoor
open Go.RowKit Go.WideShapes Go.ChangeShapes Go.ChangeAt
set_option linter.unusedVariables false
namespace lawEditTypes
theorem tl_at {s : ByteArray} {k : Nat} (h : k < s.size) (h' : k < s.toList.length) : s.toList[k] = s[k] := by
  have := List.getElem_of_eq (toList_data s) h'
  rw [this]
  rfl
theorem ext_one {s : ByteArray} {k : Nat} (h : k < s.size) : (s.extract k (k + 1)).toList = [s[k]] := by
  rw [toList_data, ByteArray.data_extract, Array.toList_extract, List.extract_eq_take_drop]
  have h2 : k < s.data.toList.length := by simpa using h
  rw [List.drop_eq_getElem_cons h2]
  have : k + 1 - k = 1 := by omega
  rw [this]
  rfl
theorem ext_take {s : ByteArray} {k : Nat} : (s.extract 0 k).toList = s.toList.take k := by
  rw [toList_data, ByteArray.data_extract, Array.toList_extract, List.extract_eq_take_drop, toList_data]
  simp
theorem ext_drop {s : ByteArray} {k : Nat} : (s.extract k s.size).toList = s.toList.drop k := by
  rw [toList_data, ByteArray.data_extract, Array.toList_extract, List.extract_eq_take_drop, toList_data]
  have h : s.data.toList.length = s.size := by simp
  rw [List.take_of_length_le (by rw [List.length_drop, h]; omega)]
theorem app_list (a b : ByteArray) : (a ++ b).toList = a.toList ++ b.toList := by
  rw [toList_data, toList_data, toList_data, ByteArray.data_append, Array.toList_append]
def dash : ByteArray := ⟨#[45]⟩
theorem put_is {s : ByteArray} {n : Nat} : ((s.extract 0 n ++ ⟨#[45]⟩) ++ s.extract n s.size).toList = s.toList.take n ++ (⟨#[45]⟩ : ByteArray).toList ++ s.toList.drop n := by
  rw [app_list, app_list, ext_take, ext_drop]
theorem beq_self (k : Int) : (k == k) = true := by simp
theorem letter_of {c : UInt8} : badC c = !(decide (32 ≤ c.toNat) && decide (c.toNat ≤ 126)) := by
  unfold badC letterB
  congr 1
  rw [Bool.eq_iff_iff]
  simp only [Bool.and_eq_true, decide_eq_true_eq]
  omega
set_option maxRecDepth 100000 in
theorem plain_any (w : World) (s : ByteArray) (hm : s.size ≤ 9223372036854775807) :
    Calls Tryz.prog 36 #[.string s] w fun e w' => e = .returned (.bool (!s.toList.any badC)) ∧ w' = w := by
  go_enter Tryz.func36, Tryz.ntmps36
  go_wp2_with fail
  go_loop [3] (fun i => ∃ k : Nat, k ≤ s.size ∧ i = .int .i64 k ∧ Hid ((s.toList.take k).any badC = false)) (fun i => s.size - (intOf i).toNat)
  case atStart => exact ⟨0, Nat.zero_le _, rfl, by show _ = _; simp⟩
  case round =>
    obtain ⟨k, hk, rfl, hall⟩ := hrel
    by_cases hlt : k < s.size
    · have hk0 : (0 : Int) ≤ (k : Int) := by omega
      have hkl : k < s.toList.length := by rw [toList_len]; exact hlt
      have HT : Hid ((s.toList.take (k + 1)).any badC = badC s[k]) := by
        show _ = _
        rw [List.take_succ_eq_append_getElem hkl, List.any_append, hall.out, tl_at hlt hkl]
        simp
      have HBD : Hid (badC s[k] = true → (!s.toList.any badC) = false) := fun h => by
        rw [Bool.not_eq_false', List.any_eq_true]
        exact ⟨_, List.getElem_mem hkl, by rw [tl_at hlt hkl]; exact h⟩
      have HL := Lib.hid (letter_of (c := s[k]))
      by_cases h1 : 32 ≤ s[k].toNat
      · by_cases h2 : s[k].toNat ≤ 126
        · have HG : Hid (badC s[k] = false) := by show _ = _; rw [HL.out, decide_eq_true h1, decide_eq_true h2]; rfl
          go_wp2
          go_round
          case rel => exact ⟨k + 1, by omega, by go_num, by show _ = _; rw [HT.out, HG.out]⟩
          case measure => simp [intOf]; omega
        · have HG : Hid (badC s[k] = true) := by show _ = _; rw [HL.out, decide_eq_false h2]; simp
          go_wp2
          go_ret
          exact ⟨by rw [HBD.out HG.out]; rfl, rfl⟩
      · have HG : Hid (badC s[k] = true) := by show _ = _; rw [HL.out, decide_eq_false h1]; rfl
        go_wp2
        go_ret
        exact ⟨by rw [HBD.out HG.out]; rfl, rfl⟩
    · obtain rfl : k = s.size := by omega
      have hk0 : (0 : Int) ≤ (s.size : Int) := by omega
      have HA : Hid (s.toList.any badC = false) := by
        have := hall.out
        rw [List.take_of_length_le (by rw [toList_len]; omega)] at this
        exact this
      clear hall
      go_wp2
      go_ret
      exact ⟨by rw [HA.out]; rfl, rfl⟩
def LoopT (w : World) (B ba bb : Nat) (sa : LDoc) (who : Int) (text : ByteArray) (i : Value) (wr : World) : Prop := ∃ (k : Nat) (st : LDoc), k ≤ text.size ∧ i = .int .i64 k ∧ Hid (Scene w B ba bb sa st [] wr) ∧ Hid (LDoc.Typing who (text.toList.take k) st)
set_option maxRecDepth 100000 in
set_option maxHeartbeats 8000000 in
theorem walk (w : World) (text : ByteArray) (who at_ : Int) (hg : Glob w) (ht : text.size ≤ 9223372036854775807) (hw0 : -9223372036854775808 ≤ who) (hw1 : who ≤ 9223372036854775807) (ha0 : -9223372036854775808 ≤ at_) (ha1 : at_ ≤ 9223372036854775807) :
    Calls Tryz.prog 6 #[.string text, .int .i64 who, .int .i64 at_] w (CheckPost w (.bool true)) := by
  have HE0 : errV 0 = .nilIface := rfl
  have HN := Lib.hid (fun W => new_doc W)
  have KE := Lib.hid (fun W (hb : Below w.heap.size w W) k e => error_any W k e (hg.below hb (Nat.le_refl _)))
  have KP := Lib.hid (fun W => plain_any W text ht)
  clear hg
  go_enter Tryz.func6, Tryz.ntmps6
  go_wp2_with fail
  refine (HN.out w).mono ?_
  rintro e w1 ⟨b1, S1, D1, rfl, hd1, hb1⟩
  have HD1 := Lib.hid hd1
  have HB1 := Lib.hid hb1
  clear hd1 hb1
  go_wp2_with fail
  refine (HN.out w1).mono ?_
  rintro e w2 ⟨b2, S2, D2, rfl, hd2, hb2⟩
  have HS2 : Hid (Scene w w.heap.size b1 b2 LDoc.new LDoc.new [] w2) := Scene.of_docs (Docs2.make HB1.out (Nat.le_refl _) HD1.out hb2 hd2)
  clear hd2 hb2 HD1 HB1 HN
  have HI := Lib.hid (HS2.out.insL LDoc.new_ok who 0 text hw0 hw1 (by decide) ht)
  go_wp2_with fail
  refine HI.out.mono ?_
  rintro e w3 ⟨V, c, zs, rfl, hz, hzl, hs⟩
  have HS3 := Lib.hid hs
  have HBW := Lib.hid hs.below
  have HZ := Lib.hid hz
  have HW := Lib.hid (LDoc.insE_cases LDoc.new_ok who 0 text)
  clear hs hz HI HS2
  by_cases hie : LDoc.new.insE who 0 text = 0
  · obtain ⟨a1, a2, _⟩ := LDoc.ins_ok hie
    obtain ⟨i1, i2, _, _⟩ := insErr_zero a2
    obtain ⟨_, w0, w8⟩ := who_dot a1
    rw [hie, HE0]
    by_cases h60 : 60 < text.size
    · have g0 : (60 : Int) < (text.size : Int) := by omega
      have g1 : decide ((text.size : Int) > 60) = true := decide_eq_true g0
      have n1 : ¬ who < 1 := by omega
      have n2 : ¬ (8 : Int) < who := by omega
      have KP2 := Lib.hid (KP.out w3)
      rw [i2] at KP2
      clear a1 a2 i2 hie HW
      go_wp2_with fail
      refine KP2.out.mono ?_
      rintro e w4 ⟨rfl, rfl⟩
      go_wp2_with fail
      go_ret
      exact ⟨rfl, HBW.out⟩
    · have g0 : ¬ (60 : Int) < (text.size : Int) := by omega
      have hsz : text.size ≤ 60 := by omega
      obtain ⟨t1, _, _, t4⟩ := (LDoc.Typing.new a1).step (off := 0) (text := text) hie (by simp; omega)
      have HTA : Hid (LDoc.Typing who text.toList (LDoc.new.doR (LDoc.new.insR who 0 text))) := by have := t4; simp only [List.take_nil, List.drop_nil, List.nil_append, List.append_nil] at this; exact this
      have HDO := Lib.hid (HS3.out.doL LDoc.new_ok (V := V) (zs := zs) (by simp) c (by omega))
      rw [HZ.out, t1] at HDO
      have A1 := Lib.hid a1
      have I2 := Lib.hid i2
      clear a1 a2 i2 hie HW t1 t4 h60
      generalize LDoc.new.doR (LDoc.new.insR who 0 text) = sa at *
      go_wp2_with fail
      refine HDO.out.mono ?_
      rintro e w4 ⟨rfl, hs⟩
      rw [HE0]
      have HS4 : Hid (Scene w w.heap.size b1 b2 sa LDoc.new [] w4) := hs.sub (by simp)
      clear hs HDO HS3
      go_upto_block 0 with (fail)
      go_cut [] (fun wx => ∃ st, Scene w w.heap.size b1 b2 sa st [] wx ∧ LDoc.Typing who text.toList st)
      case first =>
        go_wp2_with fail
        go_loopw [11] (fun i wr => LoopT w w.heap.size b1 b2 sa who text i wr) (fun i _ => text.size - (intOf i).toNat)
        case atStart => exact ⟨0, LDoc.new, Nat.zero_le _, rfl, HS4.out, by show LDoc.Typing _ _ _; simpa using LDoc.Typing.new A1.out⟩
        case round =>
          obtain ⟨k, st, hk, rfl, HK, HT⟩ := hrel
          have k0 : (0 : Int) ≤ (k : Int) := by omega
          by_cases hlt : k < text.size
          · have k1 : (k : Int) < (text.size : Int) := by omega
            have k2 : (k : Int) + 1 ≤ (text.size : Int) := by omega
            have hkl : k < text.toList.length := by rw [toList_len]; exact hlt
            have hes : (text.extract k (k + 1)).size = 1 := by rw [ByteArray.size_extract]; omega
            have hbad : (text.extract k (k + 1)).toList.any badC = false := by
              rw [ext_one hlt, ← tl_at hlt hkl, List.any_cons, List.any_nil, Bool.or_false]
              cases hb : badC text.toList[k] with
              | false => rfl
              | true =>
                have : text.toList.any badC = true := List.any_eq_true.2 ⟨_, List.getElem_mem hkl, hb⟩
                rw [I2.out] at this; cases this
            have hts : (text.toList.take k).length = k := by rw [List.length_take, toList_len]; omega
            have hwhy := LDoc.ins_why HT.out.ok (off := (k : Int)) A1.out hbad (by omega) k0 (by rw [LDoc.tx_size, HT.out.text, hts]; omega)
            have HI := Lib.hid (HK.out.insR HT.out.ok who k (text.extract k (k + 1)) hw0 hw1 (by omega) (by omega))
            have q1 : IntKind.i64.wrap ((k : Int) + 1) = (k : Int) + 1 := IntWalk.i64_in _ (by omega)
            rcases hwhy with he | he
            · obtain ⟨t1, _, _, t4⟩ := HT.out.step he (by rw [hts, hes]; omega)
              have HT2 : Hid (LDoc.Typing who (text.toList.take (k + 1)) (st.doR (st.insR who k (text.extract k (k + 1))))) := by
                have := t4
                rw [Int.toNat_natCast, ext_one hlt, List.take_take, Nat.min_self, List.drop_eq_nil_of_le (by rw [hts]; omega), List.append_nil, ← tl_at hlt hkl, ← List.take_succ_eq_append_getElem hkl] at this
                exact this
              have T1 := Lib.hid t1
              have OKS := Lib.hid HT.out.ok
              rw [he] at HI
              clear he t1 t4 hbad hts hes HT HK
              go_wp2_with fail
              refine HI.out.mono ?_
              rintro e w5 ⟨V5, c5, z5, rfl, hz, hzl5, hs⟩
              rw [HE0]
              have HDO := Lib.hid (hs.doR OKS.out (V := V5) (zs := z5) (by simp) c5 (by omega))
              rw [hz, T1.out] at HDO
              clear hs hz HI
              go_wp2_with fail
              refine HDO.out.mono ?_
              rintro e w6 ⟨rfl, hs⟩
              rw [HE0]
              have HS6 : Hid (Scene w w.heap.size b1 b2 sa (st.doR (st.insR who k (text.extract k (k + 1)))) [] w6) := hs.sub (by simp)
              clear hs HDO
              go_wp2_with fail
              go_roundw
              case rel => exact ⟨k + 1, _, by omega, by go_num, HS6, HT2⟩
              case measure => simp [intOf]; omega
            · rw [he] at HI
              have HV8 := errV_ne (show (8 : Int) ≠ 0 by decide)
              clear he hbad hts hes HT HK
              go_wp2_with fail
              refine HI.out.mono ?_
              rintro e w5 ⟨V5, c5, z5, rfl, hz, hzl5, hs⟩
              have HB5 := Lib.hid hs.below
              have HER : Hid (Calls _ _ _ _ _) := KE.out _ HB5.out 8 8
              rw [HV8] at HER ⊢
              clear hs hz HI
              go_wp2_with fail
              refine HER.out.mono ?_
              rintro e w6 ⟨rfl, hb⟩
              have HB6 := Lib.hid (HB5.out.trans (hb.mono HB5.out.size))
              clear hb
              go_wp2_with fail
              go_ret
              exact ⟨rfl, HB6.out⟩
          · have k1 : ¬ (k : Int) < (text.size : Int) := by omega
            obtain rfl : k = text.size := by omega
            have HF : Hid (LDoc.Typing who text.toList st) := by
              have := HT.out
              rw [List.take_of_length_le (by rw [toList_len]; omega)] at this
              exact this
            go_wp2_with fail
            go_meet
            case rel => exact ⟨st, HK.out, HF.out⟩
      case rest =>
        obtain ⟨sb, hsb, htb⟩ := hcut
        have HS5 := Lib.hid hsb
        have HTB := Lib.hid htb
        clear hsb htb HS4
        have ha : textOf sa.book = text := tl_inj (by rw [LDoc.tx_list]; exact HTA.out.text)
        have hb : textOf sb.book = text := tl_inj (by rw [LDoc.tx_list]; exact HTB.out.text)
        have HT : Hid (Calls _ _ _ _ _) := HS5.out.textL HTA.out.ok
        rw [ha] at HT
        have HB := Lib.hid hb
        have HA := Lib.hid ha
        have geq : (text.toList == text.toList) = true := by simp
        clear ha hb
        go_wp2_with fail
        refine HT.out.mono ?_
        rintro e w6 ⟨rfl, _, hs⟩
        have HT : Hid (Calls _ _ _ _ _) := hs.textR HTB.out.ok
        rw [HB.out] at HT
        clear hs HS5
        go_wp2_with fail
        refine HT.out.mono ?_
        rintro e w7 ⟨rfl, _, hs⟩
        have HI := Lib.hid (hs.insL HTA.out.ok who at_ ⟨#[45]⟩ hw0 hw1 ha1 (by decide))
        have hdb : (⟨#[45]⟩ : ByteArray).toList.any badC = false := by decide +kernel
        have hds : (⟨#[45]⟩ : ByteArray).size = 1 := rfl
        have HS7 := Lib.hid hs
        clear hs HT
        by_cases hin : at_ < 0 ∨ (text.size : Int) < at_
        · have he := LDoc.ins_far HTA.out.ok (off := at_) A1.out hdb (by omega) (by rw [HA.out]; exact hin)
          rw [he] at HI
          have HV1 := errV_ne (show (1 : Int) ≠ 0 by decide)
          clear he hdb hds
          go_wp2_with fail
          refine HI.out.mono ?_
          rintro e w8 ⟨V5, c5, z5, rfl, hz, hzl5, hs⟩
          have HB8 := Lib.hid hs.below
          have HER : Hid (Calls _ _ _ _ _) := KE.out _ HB8.out 1 1
          rw [HV1] at HER ⊢
          clear hs hz HI
          rcases hin with hin | hin
          · go_wp2_with fail
            refine HER.out.mono ?_
            rintro e w9 ⟨rfl, hb⟩
            have HB9 := Lib.hid (HB8.out.trans (hb.mono HB8.out.size))
            clear hb
            go_wp2_with fail
            go_ret
            exact ⟨rfl, HB9.out⟩
          · have hnn : ¬ at_ < 0 := by omega
            go_wp2_with fail
            refine HER.out.mono ?_
            rintro e w9 ⟨rfl, hb⟩
            have HB9 := Lib.hid (HB8.out.trans (hb.mono HB8.out.size))
            clear hb
            go_wp2_with fail
            go_ret
            exact ⟨rfl, HB9.out⟩
        · obtain ⟨n, rfl⟩ : ∃ n : Nat, at_ = (n : Int) := ⟨at_.toNat, by omega⟩
          have hn : n ≤ text.size := by omega
          have n0 : ¬ (n : Int) < 0 := by omega
          have n00 : (0 : Int) ≤ (n : Int) := by omega
          have n1 : ¬ (text.size : Int) < (n : Int) := by omega
          have n2 : (n : Int) ≤ (text.size : Int) := by omega
          have hwhy := LDoc.ins_why HTA.out.ok (off := (n : Int)) A1.out hdb (by omega) (by omega) (by rw [HA.out]; omega)
          rcases hwhy with he | he
          · obtain ⟨t1, _, _, t4⟩ := HTA.out.step he (by rw [toList_len, hds]; omega)
            have HTX : Hid (textOf (sa.doR (sa.insR who n ⟨#[45]⟩)).book = (text.extract 0 n ++ ⟨#[45]⟩) ++ text.extract n text.size) := by
              show _ = _
              apply tl_inj
              rw [LDoc.tx_list, put_is]
              exact t4.text
            have OKF := Lib.hid t4.ok
            have T1 := Lib.hid t1
            rw [he] at HI
            have hsz1 : (text.extract 0 n).size = n := by rw [ByteArray.size_extract]; omega
            have hsz2 : (text.extract n text.size).size = text.size - n := by rw [ByteArray.size_extract]; omega
            have hc1 : ∀ W, (Op.stringOp .add (text.extract 0 n) ⟨#[45]⟩).run Tryz.prog W = .ok (.string (text.extract 0 n ++ ⟨#[45]⟩)) W := fun W => run_string_add_sum _ _ _ (by rw [hsz1, hds]; omega)
            have hc2 : ∀ W, (Op.stringOp .add (text.extract 0 n ++ ⟨#[45]⟩) (text.extract n text.size)).run Tryz.prog W = .ok (.string ((text.extract 0 n ++ ⟨#[45]⟩) ++ text.extract n text.size)) W := fun W => run_string_add_sum _ _ _ (by rw [ByteArray.size_append, hsz1, hsz2, hds]; omega)
            have HRES : Hid (∀ X : ByteArray, (X.toList == X.toList) = true) := fun X => by simp
            clear he t1 t4 hdb hds hin HS7
            go_wp2_with fail
            refine HI.out.mono ?_
            rintro e w8 ⟨V5, c5, z5, rfl, hz, hzl5, hs⟩
            rw [HE0]
            have HZ5 := Lib.hid hz
            have HS8 := Lib.hid hs
            have HB8 := Lib.hid hs.below
            clear hs hz HI
            have HER : Hid (∀ W, Scene w w.heap.size b1 b2 sa sb [(V5, z5)] W → Calls Tryz.prog 15 #[.nilIface, .int .i64 8] W (fun e w' => e = .returned (.bool false) ∧ Scene w w.heap.size b1 b2 sa sb [(V5, z5)] w')) := fun W hW => (KE.out _ hW.below 0 8).mono fun e w' hh => ⟨hh.1, hW.step hh.2⟩
            have HDC : Hid (∀ W, Scene w w.heap.size b1 b2 sa sb [(V5, z5)] W → Calls Tryz.prog 37 #[.pointer (some ⟨b1, 0, none⟩), .slice V5 z5.length c5] W (fun e w' => e = .returned .nilIface ∧ Scene w w.heap.size b1 b2 (sa.doR (sa.insR who n ⟨#[45]⟩)) sb [(V5, z5)] w')) := fun W hW => by
              have := hW.doL HTA.out.ok (V := V5) (zs := z5) (by simp) c5 (by omega)
              rw [HZ5.out, T1.out] at this
              exact this
            have HTC : Hid (∀ W, Scene w w.heap.size b1 b2 (sa.doR (sa.insR who n ⟨#[45]⟩)) sb [(V5, z5)] W → Calls Tryz.prog 24 #[.pointer (some ⟨b1, 0, none⟩)] W (fun e w' => e = .returned (.string ((text.extract 0 n ++ ⟨#[45]⟩) ++ text.extract n text.size)) ∧ Scene w w.heap.size b1 b2 (sa.doR (sa.insR who n ⟨#[45]⟩)) sb [(V5, z5)] w')) := fun W hW => by
              have := hW.textL OKF.out
              rw [HTX.out] at this
              exact this.mono fun e w' hh => ⟨hh.1, hh.2.2⟩
            have gX := HRES.out ((text.extract 0 n ++ ⟨#[45]⟩) ++ text.extract n text.size)
            generalize sa.doR (sa.insR who n ⟨#[45]⟩) = sc at *
            go_wp2_with fail
            go_region_held3 (fun _ => True) (trivial)
              (first
                | (go_at_call 15; refine (HER.out _ (by first | exact HS8.out | exact HS8.out.drewN _ | exact HS8.out.drew)).mono ?_; rintro e w9 ⟨rfl, hs⟩
                   have HS9 := Lib.hid hs
                   clear hs)
                | (go_at_call 37; refine (HDC.out _ (by first | exact HS9.out | exact HS9.out.drewN _ | exact HS9.out.drew)).mono ?_; rintro e w10 ⟨rfl, hs⟩
                   have HS10 := Lib.hid hs
                   clear hs)
                | (go_at_call 24; refine (HTC.out _ (by first | exact HS10.out | exact HS10.out.drewN _ | exact HS10.out.drew)).mono ?_; rintro e w11 ⟨rfl, hs⟩
                   have HS11 := Lib.hid hs
                   clear hs))
            have HBF : Hid (Below w.heap.size w w11) := HS11.out.below
            go_wp2_with fail
            go_ret
            exact ⟨rfl, HBF.out⟩
          · rw [he] at HI
            have HV8 := errV_ne (show (8 : Int) ≠ 0 by decide)
            clear he hdb hds hin
            go_wp2_with fail
            refine HI.out.mono ?_
            rintro e w8 ⟨V5, c5, z5, rfl, hz, hzl5, hs⟩
            have HB8 := Lib.hid hs.below
            have HER : Hid (∀ W, Below w.heap.size w W → Calls Tryz.prog 15 #[errV 8, .int .i64 8] W (CheckPost W (.bool true))) := fun W hW => KE.out _ hW 8 8
            rw [HV8] at HER ⊢
            clear hs hz HI
            go_wp2_with fail
            refine wp_region_held_drew (S := fun _ => True) (by kernel_rfl) trivial (fun _ => ?_)
            refine wpAnyH_take (i := 0) (v := .iface 116 (.int .i64 8)) rfl (by kernel_rfl) (by kernel_rfl) (by kernel_rfl) (fun _ _ _ h => h) (Or.inl ⟨by kernel_rfl, fun w _ => by go_simp⟩) trivial ?_
            simp only [List.getElem_toArray, List.getElem_cons_succ, List.getElem_cons_zero, Act.put, List.setIfInBounds_toArray, List.set_cons_zero, List.set_cons_succ]
            refine wpAnyH_ready (rs := [1]) (by kernel_rfl) (by simp) ?_
            refine AllReadyH.cons rfl (fun K hK => ?_) AllReadyH.nil
            rw [if_pos (by rfl)]
            go_simp
            refine (HER.out _ (by first | exact HB8.out.drew | exact HB8.out | exact below_drewN HB8.out _)).mono ?_
            rintro e w9 ⟨rfl, hb⟩
            have HB9 : Hid (Below w.heap.size w w9) := HB8.out.trans (Below.mono (by first | exact hb | exact below_of_drewN (n := 1) hb) HB8.out.size)
            clear hb
            refine hK.out _ _ trivial (fun _ => ?_)
            clear hK K
            try simp only [List.getElem_toArray, List.getElem_cons_succ, List.getElem_cons_zero, Act.put, List.setIfInBounds_toArray, List.set_cons_zero, List.set_cons_succ]
            refine wpAnyH_take (i := 2) (v := .bool true) rfl (by kernel_rfl) (by kernel_rfl) (by kernel_rfl) (fun _ _ _ h => h) (Or.inl ⟨by kernel_rfl, fun w _ => by go_simp⟩) trivial ?_
            simp only [List.getElem_toArray, List.getElem_cons_succ, List.getElem_cons_zero, Act.put, List.setIfInBounds_toArray, List.set_cons_zero, List.set_cons_succ]
            refine wpAnyH_take (i := 3) (v := undef) rfl (by kernel_rfl) (by kernel_rfl) (by kernel_rfl) (fun _ _ _ h => h) (Or.inr ⟨by kernel_rfl, rfl⟩) trivial ?_
            simp only [List.getElem_toArray, List.getElem_cons_succ, List.getElem_cons_zero, Act.put, List.setIfInBounds_toArray, List.set_cons_zero, List.set_cons_succ]
            refine wpAnyH_take (i := 4) (v := undef) rfl (by kernel_rfl) (by kernel_rfl) (by kernel_rfl) (fun _ _ _ h => h) (Or.inr ⟨by kernel_rfl, rfl⟩) trivial ?_
            simp only [List.getElem_toArray, List.getElem_cons_succ, List.getElem_cons_zero, Act.put, List.setIfInBounds_toArray, List.set_cons_zero, List.set_cons_succ]
            refine wpAnyH_take (i := 5) (v := undef) rfl (by kernel_rfl) (by kernel_rfl) (by kernel_rfl) (fun _ _ _ h => h) (Or.inr ⟨by kernel_rfl, rfl⟩) trivial ?_
            simp only [List.getElem_toArray, List.getElem_cons_succ, List.getElem_cons_zero, Act.put, List.setIfInBounds_toArray, List.set_cons_zero, List.set_cons_succ]
            refine wpAnyH_take (i := 6) (v := undef) rfl (by kernel_rfl) (by kernel_rfl) (by kernel_rfl) (fun _ _ _ h => h) (Or.inr ⟨by kernel_rfl, rfl⟩) trivial ?_
            simp only [List.getElem_toArray, List.getElem_cons_succ, List.getElem_cons_zero, Act.put, List.setIfInBounds_toArray, List.set_cons_zero, List.set_cons_succ]
            refine wpAnyH_take (i := 7) (v := undef) rfl (by kernel_rfl) (by kernel_rfl) (by kernel_rfl) (fun _ _ _ h => h) (Or.inr ⟨by kernel_rfl, rfl⟩) trivial ?_
            simp only [List.getElem_toArray, List.getElem_cons_succ, List.getElem_cons_zero, Act.put, List.setIfInBounds_toArray, List.set_cons_zero, List.set_cons_succ]
            refine wpAnyH_take (i := 8) (v := undef) rfl (by kernel_rfl) (by kernel_rfl) (by kernel_rfl) (fun _ _ _ h => h) (Or.inr ⟨by kernel_rfl, rfl⟩) trivial ?_
            simp only [List.getElem_toArray, List.getElem_cons_succ, List.getElem_cons_zero, Act.put, List.setIfInBounds_toArray, List.set_cons_zero, List.set_cons_succ]
            refine wpAnyH_take (i := 9) (v := undef) rfl (by kernel_rfl) (by kernel_rfl) (by kernel_rfl) (fun _ _ _ h => h) (Or.inr ⟨by kernel_rfl, rfl⟩) trivial ?_
            simp only [List.getElem_toArray, List.getElem_cons_succ, List.getElem_cons_zero, Act.put, List.setIfInBounds_toArray, List.set_cons_zero, List.set_cons_succ]
            refine wpAnyH_take (i := 10) (v := undef) rfl (by kernel_rfl) (by kernel_rfl) (by kernel_rfl) (fun _ _ _ h => h) (Or.inr ⟨by kernel_rfl, rfl⟩) trivial ?_
            simp only [List.getElem_toArray, List.getElem_cons_succ, List.getElem_cons_zero, Act.put, List.setIfInBounds_toArray, List.set_cons_zero, List.set_cons_succ]
            refine wpAnyH_take (i := 11) (v := undef) rfl (by kernel_rfl) (by kernel_rfl) (by kernel_rfl) (fun _ _ _ h => h) (Or.inr ⟨by kernel_rfl, rfl⟩) trivial ?_
            simp only [List.getElem_toArray, List.getElem_cons_succ, List.getElem_cons_zero, Act.put, List.setIfInBounds_toArray, List.set_cons_zero, List.set_cons_succ]
            refine wpAnyH_take (i := 12) (v := undef) rfl (by kernel_rfl) (by kernel_rfl) (by kernel_rfl) (fun _ _ _ h => h) (Or.inr ⟨by kernel_rfl, rfl⟩) trivial ?_
            simp only [List.getElem_toArray, List.getElem_cons_succ, List.getElem_cons_zero, Act.put, List.setIfInBounds_toArray, List.set_cons_zero, List.set_cons_succ]
            refine wpAnyH_take (i := 13) (v := undef) rfl (by kernel_rfl) (by kernel_rfl) (by kernel_rfl) (fun _ _ _ h => h) (Or.inr ⟨by kernel_rfl, rfl⟩) trivial ?_
            simp only [List.getElem_toArray, List.getElem_cons_succ, List.getElem_cons_zero, Act.put, List.setIfInBounds_toArray, List.set_cons_zero, List.set_cons_succ]
            refine wpAnyH_take (i := 14) (v := undef) rfl (by kernel_rfl) (by kernel_rfl) (by kernel_rfl) (fun _ _ _ h => h) (Or.inr ⟨by kernel_rfl, rfl⟩) trivial ?_
            simp only [List.getElem_toArray, List.getElem_cons_succ, List.getElem_cons_zero, Act.put, List.setIfInBounds_toArray, List.set_cons_zero, List.set_cons_succ]
            refine wpAnyH_take (i := 15) (v := undef) rfl (by kernel_rfl) (by kernel_rfl) (by kernel_rfl) (fun _ _ _ h => h) (Or.inr ⟨by kernel_rfl, rfl⟩) trivial ?_
            simp only [List.getElem_toArray, List.getElem_cons_succ, List.getElem_cons_zero, Act.put, List.setIfInBounds_toArray, List.set_cons_zero, List.set_cons_succ]
            refine wpAnyH_take (i := 16) (v := undef) rfl (by kernel_rfl) (by kernel_rfl) (by kernel_rfl) (fun _ _ _ h => h) (Or.inr ⟨by kernel_rfl, rfl⟩) trivial ?_
            simp only [List.getElem_toArray, List.getElem_cons_succ, List.getElem_cons_zero, Act.put, List.setIfInBounds_toArray, List.set_cons_zero, List.set_cons_succ]
            refine wpAnyH_take (i := 17) (v := undef) rfl (by kernel_rfl) (by kernel_rfl) (by kernel_rfl) (fun _ _ _ h => h) (Or.inr ⟨by kernel_rfl, rfl⟩) trivial ?_
            simp only [List.getElem_toArray, List.getElem_cons_succ, List.getElem_cons_zero, Act.put, List.setIfInBounds_toArray, List.set_cons_zero, List.set_cons_succ]
            refine wpAnyH_take (i := 18) (v := undef) rfl (by kernel_rfl) (by kernel_rfl) (by kernel_rfl) (fun _ _ _ h => h) (Or.inr ⟨by kernel_rfl, rfl⟩) trivial ?_
            simp only [List.getElem_toArray, List.getElem_cons_succ, List.getElem_cons_zero, Act.put, List.setIfInBounds_toArray, List.set_cons_zero, List.set_cons_succ]
            refine wpAnyH_take (i := 19) (v := undef) rfl (by kernel_rfl) (by kernel_rfl) (by kernel_rfl) (fun _ _ _ h => h) (Or.inr ⟨by kernel_rfl, rfl⟩) trivial ?_
            simp only [List.getElem_toArray, List.getElem_cons_succ, List.getElem_cons_zero, Act.put, List.setIfInBounds_toArray, List.set_cons_zero, List.set_cons_succ]
            refine wpAnyH_take (i := 20) (v := undef) rfl (by kernel_rfl) (by kernel_rfl) (by kernel_rfl) (fun _ _ _ h => h) (Or.inr ⟨by kernel_rfl, rfl⟩) trivial ?_
            simp only [List.getElem_toArray, List.getElem_cons_succ, List.getElem_cons_zero, Act.put, List.setIfInBounds_toArray, List.set_cons_zero, List.set_cons_succ]
            refine wpAnyH_take (i := 21) (v := undef) rfl (by kernel_rfl) (by kernel_rfl) (by kernel_rfl) (fun _ _ _ h => h) (Or.inr ⟨by kernel_rfl, rfl⟩) trivial ?_
            simp only [List.getElem_toArray, List.getElem_cons_succ, List.getElem_cons_zero, Act.put, List.setIfInBounds_toArray, List.set_cons_zero, List.set_cons_succ]
            refine wpAnyH_take (i := 22) (v := undef) rfl (by kernel_rfl) (by kernel_rfl) (by kernel_rfl) (fun _ _ _ h => h) (Or.inr ⟨by kernel_rfl, rfl⟩) trivial ?_
            simp only [List.getElem_toArray, List.getElem_cons_succ, List.getElem_cons_zero, Act.put, List.setIfInBounds_toArray, List.set_cons_zero, List.set_cons_succ]
            refine wpAnyH_take (i := 23) (v := undef) rfl (by kernel_rfl) (by kernel_rfl) (by kernel_rfl) (fun _ _ _ h => h) (Or.inr ⟨by kernel_rfl, rfl⟩) trivial ?_
            simp only [List.getElem_toArray, List.getElem_cons_succ, List.getElem_cons_zero, Act.put, List.setIfInBounds_toArray, List.set_cons_zero, List.set_cons_succ]
            refine wpAnyH_take (i := 24) (v := .bool true) rfl (by kernel_rfl) (by kernel_rfl) (by kernel_rfl) (fun _ _ _ h => h) (Or.inl ⟨by kernel_rfl, fun w _ => by go_simp⟩) trivial ?_
            simp only [List.getElem_toArray, List.getElem_cons_succ, List.getElem_cons_zero, Act.put, List.setIfInBounds_toArray, List.set_cons_zero, List.set_cons_succ]
            refine wpAnyH_take (i := 25) (v := .bool true) rfl (by kernel_rfl) (by kernel_rfl) (by kernel_rfl) (fun _ _ _ h => h) (Or.inl ⟨by kernel_rfl, fun w _ => by go_simp⟩) trivial ?_
            simp only [List.getElem_toArray, List.getElem_cons_succ, List.getElem_cons_zero, Act.put, List.setIfInBounds_toArray, List.set_cons_zero, List.set_cons_succ]
            refine wpAnyH_done (by kernel_rfl) ?_ _
            go_wp2_with fail
            go_ret
            exact ⟨rfl, HB9.out⟩
  · have HKE : Hid (¬ who < 1 → ¬ 8 < who → text.toList.any badC = false → ¬ 60 < text.size → LDoc.new.insE who 0 text = 8) := fun n1 n2 n3 n4 => by
      rcases HW.out with ⟨c1, _⟩ | ⟨_, c2, _⟩ | ⟨_, _, c3⟩
      · exfalso; apply c1; unfold LDoc.whoE; rw [if_neg (by omega)]
      · exfalso; apply c2; unfold insErr; rw [if_neg (by omega), if_neg (by rw [n3]; decide), if_neg (by have : (textOf LDoc.new.book).size = 0 := rfl; omega)]
      · rcases c3 with h | h
        · exact absurd h hie
        · exact h
    have HV := Lib.hid (errV_ne hie)
    have KP2 := Lib.hid (KP.out w3)
    clear hie HW
    generalize LDoc.new.insE who 0 text = ke at *
    rw [HV.out]
    by_cases n1 : who < 1
    · go_wp2_with fail
      go_ret
      exact ⟨rfl, HBW.out⟩
    · by_cases n2 : 8 < who
      · have n2' : decide (who > 8) = true := decide_eq_true n2
        go_wp2_with fail
        go_ret
        exact ⟨rfl, HBW.out⟩
      · cases hbd : text.toList.any badC with
        | true =>
          rw [hbd] at KP2
          clear hbd HKE
          go_wp2_with fail
          refine KP2.out.mono ?_
          rintro e w4 ⟨rfl, rfl⟩
          go_wp2_with fail
          go_ret
          exact ⟨rfl, HBW.out⟩
        | false =>
          rw [hbd] at KP2
          by_cases n4 : 60 < text.size
          · have n4' : (60 : Int) < (text.size : Int) := by omega
            clear hbd HKE
            go_wp2_with fail
            refine KP2.out.mono ?_
            rintro e w4 ⟨rfl, rfl⟩
            go_wp2_with fail
            go_ret
            exact ⟨rfl, HBW.out⟩
          · have n4' : ¬ (60 : Int) < (text.size : Int) := by omega
            have hk8 := HKE.out n1 n2 hbd n4
            have HER : Hid (Calls _ _ _ _ _) := KE.out _ HBW.out ke 8
            rw [HV.out] at HER
            have hkb : (ke == 8) = true := by rw [hk8]; rfl
            rw [hkb] at HER
            clear hbd HKE hk8 hkb
            go_wp2_with fail
            refine KP2.out.mono ?_
            rintro e w4 ⟨rfl, rfl⟩
            go_wp2_with fail
            refine HER.out.mono ?_
            rintro e w5 ⟨rfl, hb⟩
            have HB5 := Lib.hid (HBW.out.trans (hb.mono HBW.out.size))
            clear hb
            go_wp2_with fail
            go_ret
            exact ⟨rfl, HB5.out⟩
end lawEditTypes
end Go.Proofs.YtmfbckpjemfkeaaGreatDoor
/- leaflaw4.EditTypes, proved: the statement. Conditions: the library's one variable holds what its text lays (the card ties it). -/
namespace Go.Proofs.YtmfbckpjemfkeaaGreatDoor
open Go.RowKit Go.WideShapes Go.ChangeShapes Go.ChangeAt
set_option linter.unusedVariables false
namespace lawEditTypes
set_option maxRecDepth 100000 in
theorem lifted (os : Os) (started : os.Started) (H : Type) (enc : TypeId × Value → H) :
    ReturnsInHanded {} Tryz.checked os 6 .any (fun w args => (Rows.editTypesSpec.pre enc Tryz.prog Tryz.f6 [] false w args ∧ laidMetH Tryz.prog Card.laid w) ∧ sizedMet enc Tryz.prog Tryz.f6 (OpenSpec.ofChange Rows.editTypesSpec) false w args)
      (Rows.editTypesSpec.post enc Tryz.prog Tryz.f6 false true false false) := by
  refine returnsInHanded_of_change_and (C := Tryz.checked) (X := fun w _ => laidMetH Tryz.prog Card.laid w) (fun _ _ _ hh h => h.of_heap hh) Tryz.own started (by kernel_rfl) Tryz.func6
    (ChangeSpec.witness_at (enc := enc) (C := Tryz.checked) (os := os) (X := fun w _ => laidMetH Tryz.prog Card.laid w) false (Card.laidWorld os) #[.string ⟨#[]⟩, .int .i64 0, .int .i64 0] 8 rfl (by kernel_rfl) (by kernel_rfl) (by kernel_rfl) (by kernel_rfl) (by kernel_rfl) (Card.laidWorld_met os _)) ?_
  intro W base args ds gs before hval0 hW _ hsz0 hL _
  have hval : ∀ (j : Nat) t v, Tryz.f6.params[j]? = some t → args[j]? = some v → Value.okWide Tryz.prog W .any base t v := hval0
  obtain ⟨p, q, hA0, _⟩ := id hW
  have hA : DataW.TrodAll enc Tryz.prog W 0 (fun _ => true) true Tryz.f6.params.toList args.toList ds p := hA0
  have hsz : (DataW.weightsEach Tryz.prog (Tryz.f6.params.toList ++ Rows.editTypesSpec.plain.varTypes Tryz.prog) (ds ++ gs)).all (· ≤ reachBytes) = true := hsz0
  rw [Tryz.params6] at hA hval hsz
  obtain ⟨v0, v1, v2, d0, d1, d2, p0, p1, p2, rfl, rfl, rfl, h0, h1, h2⟩ := trodAll_three hA
  obtain ⟨a0, rfl, rfl, rfl, wa0⟩ := Go.ChangeMaps.open_string Tryz.underlying9 (hval 0 9 v0 rfl rfl) h0
  obtain ⟨a1, rfl, rfl, rfl, wa1⟩ := open_int Tryz.underlying3 (hval 1 3 v1 rfl rfl) h1
  obtain ⟨a2, rfl, rfl, rfl, wa2⟩ := open_int Tryz.underlying3 (hval 2 3 v2 rfl rfl) h2
  refine (walk W a0 a1 a2 (Card.glob_of_laid hL) (by unfold maxLen at wa0; exact wa0) (i64_of_wf wa1).1 (i64_of_wf wa1).2 (i64_of_wf wa2).1 (i64_of_wf wa2).2).mono fun e W' ⟨he, hb⟩ => ⟨_, he, ?_⟩
  exact law_post Tryz.laidOut (tb := 4) (by kernel_rfl) Tryz.underlying4 (by rw [Tryz.params6]; simp only [List.mem_cons, List.not_mem_nil, or_false]; rintro t (rfl | rfl | rfl) <;> exact ⟨by kernel_rfl, of_decide_eq_true (by kernel_rfl)⟩) rfl rfl hW hb

theorem holds : Rows.EditTypesSaid :=
  OpenClaim.holds_of_wide 6 Tryz.f6 rfl rfl rfl rfl rfl rfl rfl ⟨rfl, rfl, rfl, rfl, rfl⟩ rfl rfl rfl rfl rfl (by kernel_rfl) Tryz.func6 (by kernel_rfl)
    (of_decide_eq_true (by kernel_rfl)) (by unfold Func.isWrapper; first | (rw [if_pos (by decide +kernel)]; kernel_rfl) | (rw [if_neg (by decide +kernel)]; exact ⟨rfl, rfl⟩))
    (fun os started H enc _ => lifted os started H enc)
theorem noStand : ∀ t ∈ Tryz.f6.params.toList, Tryz.prog.wantsStandIn t = false := by
  rw [Tryz.params6]
  simp only [List.mem_cons, List.not_mem_nil, or_false]
  rintro t (rfl | rfl | rfl) <;> kernel_rfl
theorem card_holds : Rows.EditTypesCardSaid :=
  Claim7.holds_tied_plain_at .later [] [.handle] true Rows.editTypesCard.stood.harness true
    holds (fun _ h => by cases h) (by kernel_rfl) (fun _ h => by cases h) editTypes_row_tie rfl ⟨rfl, rfl⟩ (by kernel_rfl) rfl
    (fun f fn hf hfn => by
      obtain rfl : f = 6 := Option.some.inj ((show Tryz.prog.funcNamed Rows.editTypesRow.func = some 6 by kernel_rfl).symm.trans hf) |>.symm
      obtain rfl : fn = Tryz.f6 := (Option.some.inj (Tryz.func6.symm.trans hfn)).symm
      exact ⟨by kernel_rfl, fun j t ht => noStand t (by
        have := Array.mem_of_getElem? ht
        simpa using this)⟩)
    (by kernel_rfl)
#print axioms card_holds
end lawEditTypes
end Go.Proofs.YtmfbckpjemfkeaaGreatDoor

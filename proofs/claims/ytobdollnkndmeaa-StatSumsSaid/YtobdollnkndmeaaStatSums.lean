/- 5 texts in one: each says ahead of itself what is proved, and its conditions. -/
import Derived.Below
import Derived.Deep.CutBlock
import Derived.Deep.DeepCutAuto
import Derived.Deep.RegionHeld3
import Derived.ProofKit
import Derived.Test.YtobdollnkndmeaaRows
import Derived.WalkKit
import Derived.Test.YtobdollnkndmeaaHi
import Derived.Test.YtobdollnkndmeaaOpen
import Derived.Test.YtobdollnkndmeaaStat3
import Derived.Test.YtobdollnkndmeaaStrs
/- The end of a line as plain data: what the program's package link does, and how it lies in memory. Conditions: none. -/
namespace Go.Proofs.Ytobdollnkndmeaa
open Go.RowKit

structure LEnd where
  win : Nat
  wait : Nat
  data : List ByteArray
  acked : Nat
  said : Nat
  ticks : Nat
  got : List ByteArray
  owes : Bool

structure LFrame where
  ack : Bool
  seq : Int
  data : ByteArray

def LFrame.cells (f : LFrame) : List Value := [.bool f.ack, .int .i64 f.seq, .string f.data]
def fcells (l : List LFrame) : List Value := l.flatMap LFrame.cells
theorem fcells_append (a b : List LFrame) : fcells (a ++ b) = fcells a ++ fcells b := by simp [fcells]
theorem fcells_len (l : List LFrame) : (fcells l).length = l.length * 3 := by
  induction l with
  | nil => rfl
  | cons f l ih => simp [fcells, LFrame.cells] at ih ⊢; omega
theorem oneCells_f (l : List LFrame) : OneCells (fcells l) := by
  intro u hu
  obtain ⟨f, _, h⟩ := List.mem_flatMap.1 hu
  simp only [LFrame.cells, List.mem_cons, List.not_mem_nil, or_false] at h
  rcases h with rfl | rfl | rfl <;> rfl

def LEnd.new (win wait : Nat) : LEnd := ⟨win, wait, [], 0, 0, 0, [], false⟩
def LEnd.send (st : LEnd) (s : ByteArray) : LEnd := { st with data := st.data ++ [s] }
/-- How many frames of data it may say, from the first that is not acknowledged. -/
def LEnd.wide (st : LEnd) : Nat := min st.win st.data.length
/-- How many of these it passes over, as it said them already. -/
def LEnd.skip (st : LEnd) : Nat := if st.wait ≤ st.ticks then 0 else max st.said st.acked - st.acked
def LEnd.frame (st : LEnd) (j : Nat) : LFrame := ⟨false, st.acked + j + 1, st.data.getD j ⟨#[]⟩⟩
def LEnd.ackFrames (st : LEnd) : List LFrame := if st.owes then [⟨true, st.got.length, ⟨#[]⟩⟩] else []
def LEnd.outFrames (st : LEnd) : List LFrame := st.ackFrames ++ (List.range' st.skip (st.wide - st.skip)).map st.frame
def LEnd.out (st : LEnd) : LEnd := { st with owes := false, ticks := if st.skip < st.wide then 0 else st.ticks, said := max st.said (st.acked + st.wide) }
def LEnd.tick (st : LEnd) : LEnd := { st with ticks := st.ticks + 1 }
/-- What is wrong with a frame that is heard. -/
def LEnd.hearErr (st : LEnd) (f : LFrame) : Int :=
  if f.ack then (if f.seq < 0 ∨ (st.said : Int) < f.seq then 1 else if f.data.size ≠ 0 then 3 else 0)
  else (if f.seq < 1 then 1 else if 200 < f.data.size then 4 else 0)
def LEnd.hear (st : LEnd) (f : LFrame) : LEnd :=
  if st.hearErr f ≠ 0 then st
  else if f.ack then (if (st.acked : Int) < f.seq then { st with data := st.data.drop (f.seq.toNat - st.acked), acked := f.seq.toNat } else st)
  else { st with got := if f.seq = st.got.length + 1 then st.got ++ [f.data] else st.got, owes := true }

/-- What holds of each end. -/
structure LEnd.Ok (st : LEnd) : Prop where
  win1 : 1 ≤ st.win
  win2 : st.win ≤ 16
  wait1 : 1 ≤ st.wait
  wait2 : st.wait ≤ 20
  data : st.data.length ≤ 100
  acked : st.acked ≤ 100000
  said : st.said ≤ st.acked + st.data.length
  ticks : st.ticks ≤ 100000
  got : st.got.length ≤ 100000

/-- The cells of an end. -/
def LEnd.cells (st : LEnd) (A : Option Addr) (ca : Nat) (G : Option Addr) (cg : Nat) : Array Value :=
  #[.int .i64 st.win, .int .i64 st.wait, .slice A st.data.length ca, .int .i64 st.acked, .int .i64 st.said, .int .i64 st.ticks, .slice G st.got.length cg, .bool st.owes]

theorem elemS : Elem Try.prog 139 9 1 16 := Elem.mk_ (z := .string ⟨#[]⟩) Try.underlying139 (by kernel_rfl) rfl (by decide)
/-- The blocks of an end. -/
def endBlocks (b : Nat) (A G : Option Addr) : List Nat := b :: (ob A ++ ob G)
section
variable {w w' : World} {B b ca cg : Nat} {A G : Option Addr} {st : LEnd}
end
end Go.Proofs.Ytobdollnkndmeaa
/- Arguments opened: texts, numbers. Plain lemmas. Conditions: none of our own. -/
namespace Go.Proofs.Ytobdollnkndmeaa
open Go.RowKit Go.WideShapes Go.ChangeShapes Go.Deep
set_option linter.unusedVariables false
theorem cellsFInt : Try.prog.cellsOf 3 = 1 := by kernel_rfl
theorem cellsFStr : Try.prog.cellsOf 9 = 1 := by kernel_rfl
section
variable {H : Type} {enc : TypeId × Value → H} {w : World} {base : Nat} {spare : Nat → Bool} {held : Bool}
theorem flat_one {α : Type} (f : α → Value) (l : List α) : l.flatMap (fun x => [f x]) = l.map f := by
  induction l with
  | nil => rfl
  | cons x l ih => simp [List.flatMap_cons, ih]
set_option maxRecDepth 100000 in
theorem arg_strs {r : Reach} {b0 : Nat} {v : Value} {d : DataW H} {p : List MemPlace} (hv : Value.okWide Try.prog w r b0 139 v) (h : DataW.Trod enc Try.prog w base spare held 139 v d p) :
    ∃ (A : Option Addr) (cap : Nat) (l : List ByteArray), v = .slice A l.length cap ∧ Reads w w.heap.size 1 A l.length (strs l) ∧ (∀ y ∈ l, y.size ≤ maxLen) ∧ l.length ≤ cap ∧ cap ≤ maxLen := by
  obtain ⟨a, len, c, rfl⟩ := okWide_slice Try.underlying139 hv
  obtain ⟨fuel, hf⟩ := h
  obtain ⟨A, cap, l, e, hr, h2⟩ := open_list (α := ByteArray) (fun s => [.string s]) (fun s => s.size ≤ maxLen) Try.underlying139 cellsFStr (by decide) (fun _ => rfl) (fun _ cs _ h => by
    obtain ⟨s, e, _, hs⟩ := DataW.trod_string Try.underlying9 h
    exact ⟨s, e, hs⟩) hf
  rw [flat_one] at hr
  refine ⟨A, cap, l, ?_, hr, h2⟩
  have e' : [Value.slice a len c] = [.slice A l.length cap] := e
  injection e'
set_option maxRecDepth 100000 in
theorem arg_ints {r : Reach} {b0 : Nat} {v : Value} {d : DataW H} {p : List MemPlace} (hv : Value.okWide Try.prog w r b0 23 v) (h : DataW.Trod enc Try.prog w base spare held 23 v d p) :
    ∃ (A : Option Addr) (cap : Nat) (l : List Int), v = .slice A l.length cap ∧ Reads w w.heap.size 1 A l.length (l.map (Value.int .i64)) ∧ (∀ y ∈ l, I64 y) ∧ l.length ≤ cap ∧ cap ≤ maxLen := by
  obtain ⟨a, len, c, rfl⟩ := okWide_slice Try.underlying23 hv
  obtain ⟨fuel, hf⟩ := h
  obtain ⟨A, cap, l, e, hr, h2⟩ := open_list (α := Int) (fun s => [.int .i64 s]) I64 Try.underlying23 cellsFInt (by decide) (fun _ => rfl) (fun _ cs _ h => by
    obtain ⟨s, e, _, hs⟩ := DataW.trod_int Try.underlying3 h
    exact ⟨s, e, i64_of_wf hs⟩) hf
  rw [flat_one] at hr
  refine ⟨A, cap, l, ?_, hr, h2⟩
  have e' : [Value.slice a len c] = [.slice A l.length cap] := e
  injection e'
end
end Go.Proofs.Ytobdollnkndmeaa
/- Arguments opened: frames, texts, numbers. Plain lemmas. Conditions: none of our own. -/
namespace Go.Proofs.Ytobdollnkndmeaa
open Go.RowKit Go.WideShapes Go.ChangeShapes Go.Deep
set_option linter.unusedVariables false

instance : Inhabited LFrame := ⟨⟨false, 0, ⟨#[]⟩⟩⟩
def LFrame.In (x : LFrame) : Prop := x.data.size ≤ maxLen ∧ I64 x.seq
theorem cellsFBool : Try.prog.cellsOf 4 = 1 := by kernel_rfl
section
variable {H : Type} {enc : TypeId × Value → H} {w : World} {base : Nat} {spare : Nat → Bool} {held : Bool}
end
end Go.Proofs.Ytobdollnkndmeaa
/- From a walk to a given statement: one theorem that serves every law of the seat. Conditions: none of our own. -/
namespace Go.Proofs.Ytobdollnkndmeaa
open Go.RowKit Go.WideShapes Go.ChangeShapes Go.ChangeAt
set_option linter.unusedVariables false

section
variable {H : Type} {enc : TypeId × Value → H} {P : Program}

theorem post_of_below {f : Func} {s : ChangeSpec} {apart fresh handsOn again : Bool} {W W' : World} {args : Array Value} {v : Value} {ds gs : List (DataW H)} {before pa pv : List MemPlace}
    (hW : DataW.Whole enc P f.params.toList s.vars apart W args.toList ds gs before)
    (hres : ∀ (b : Nat) (sp : Nat → Bool) (hd : Bool), DataW.TrodAll enc P W' b sp hd f.resultTypes.toList (v.resultList f.resultTypes.size) (s.fn H (ds ++ gs)).results [])
    (hargs : ∀ sp : Nat → Bool, (∀ p ∈ before, sp p.block = true) → DataW.TrodAll enc P W' 0 sp true f.params.toList args.toList (s.fn H (ds ++ gs)).args pa)
    (hvars : ∀ sp : Nat → Bool, (∀ p ∈ before, sp p.block = true) → DataW.TrodVars enc P W' sp s.vars (s.fn H (ds ++ gs)).vars pv)
    (hps : before = pa ++ pv) (hb : Below W.heap.size W W')
    (hok : ∀ (j : Nat) (t : TypeId) (r : Value), f.resultTypes[j]? = some t → (v.resultList f.resultTypes.size)[j]? = some r → Value.okWide P W' .any 0 t r) :
    s.post enc P f apart fresh handsOn again W args v W' := by
  have hlt : ∀ p ∈ before, p.block < W.heap.size := fun p hp => hW.lt p hp
  have hold : ∀ p ∈ before, (fun b => decide (b < W.heap.size)) p.block = true := fun p hp => by simpa using hlt p hp
  refine ⟨ds, gs, before, [], pa, pv, hW, hres _ _ _, hargs _ hold, hvars _ hold, World.keptBut_mono (fun p hp => ⟨hp, ?_⟩) (hb.frame (· ∈ before)), fun _ => ?_⟩
  · rw [hps, List.mem_append] at hp
    exact Or.inr hp
  · obtain ⟨_, _, _, _, _, hz, hn⟩ := hW
    refine ⟨hok, _, _, ([] ++ pa) ++ pv, ⟨[] ++ pa, pv, trodAll_append (hargs _ (fun _ _ => rfl)) (hres _ _ _), hvars _ (fun _ _ => rfl), rfl, ?_, ?_⟩, ?_⟩
    · intro b off hp
      have hin : MemPlace.cell b off ∈ before := by rw [hps]; simpa using hp
      rw [hb.frozen (hlt _ hin)]
      exact hz b off hin
    · intro ha
      have := hn ha
      rw [hps] at this
      simpa using this
    · intro p hp _
      rw [hps]
      simpa using hp

theorem trodAll_below (hl : laidOutB P = true) {W W' : World} (hb : Below W.heap.size W W') {sp : Nat → Bool} :
    ∀ (ts : List TypeId) (vs : List Value) (ds : List (DataW H)) (ps : List MemPlace), (∀ t ∈ ts, P.readableRec t = true ∧ t < P.types.size) → (∀ p ∈ ps, p.block < W.heap.size) → (∀ p ∈ ps, sp p.block = true) →
      DataW.TrodAll enc P W 0 (fun _ => true) true ts vs ds ps → DataW.TrodAll enc P W' 0 sp true ts vs ds ps := by
  intro ts
  induction ts with
  | nil => intro vs ds ps _ _ _ h; cases vs <;> cases ds <;> simp_all [DataW.TrodAll]
  | cons t ts ih =>
    intro vs ds ps ht hlt hs h
    cases vs with
    | nil => simp [DataW.TrodAll] at h
    | cons v vs =>
      cases ds with
      | nil => simp [DataW.TrodAll] at h
      | cons d ds =>
        obtain ⟨p, q, h1, h2, rfl⟩ := h
        exact ⟨p, q, WideElems.Trod_stays hl (ht t (by simp)).1 (ht t (by simp)).2 h1 (fun x hx => hb.same (hlt x (by simp [hx]))) (fun x hx => hs x (by simp [hx])),
          ih vs ds q (fun t' h' => ht t' (by simp [h'])) (fun x hx => hlt x (by simp [hx])) (fun x hx => hs x (by simp [hx])) h2, rfl⟩

/-- A law: it answered true, and nothing that was there has turned. -/
theorem law_post (hl : laidOutB P = true) {f : Func} {s : ChangeSpec} {apart fresh handsOn again : Bool} {tb : TypeId} {W W' : World} {args : Array Value} {ds gs : List (DataW H)} {before : List MemPlace}
    (hr : f.resultTypes = #[tb]) (htb : P.underlying tb = some .bool) (hp : ∀ t ∈ f.params.toList, P.readableRec t = true ∧ t < P.types.size) (hv : s.vars = [])
    (hfn : s.fn H ds = { results := [.lit (.bool true)], args := ds })
    (hW : DataW.Whole enc P f.params.toList s.vars apart W args.toList ds gs before) (hb : Below W.heap.size W W') :
    s.post enc P f apart fresh handsOn again W args (.bool true) W' := by
  have hW' := hW
  obtain ⟨p, q, hA, hV, hpq, hfz, hnd⟩ := hW
  have hlt : ∀ x ∈ before, x.block < W.heap.size := fun x hx => hW'.lt x hx
  rw [hv] at hV
  obtain ⟨hgs, hq⟩ := trodVars_none hV
  subst hgs; subst hq
  simp only [List.append_nil] at hpq
  subst hpq
  refine post_of_below (pa := before) (pv := []) hW' ?_ ?_ ?_ (by simp) hb ?_
  · intro b sp hd
    rw [List.append_nil, hfn, hr]
    exact trodAll_mk1 (shut_bool htb _)
  · intro sp hs
    rw [List.append_nil, hfn]
    exact trodAll_below hl hb _ _ _ _ hp hlt hs hA
  · intro sp hs
    rw [List.append_nil, hfn, hv]
    exact rfl
  · exact ok_one hr rfl (okWide_bool_mk htb _)
end

theorem Try.own : ownKnob Try.prog.godebug = none := by kernel_rfl
theorem Try.laidOut : laidOutB Try.prog = true := by kernel_rfl
end Go.Proofs.Ytobdollnkndmeaa
/- leaflaw3.StatSums, proved: what authors wrote is in all what is seen; one behind the other two runs are of two. Conditions: none of our own. -/
namespace Go.Proofs.Ytobdollnkndmeaa
open Go.RowKit Go.WideShapes Go.ChangeShapes Go.ChangeAt
set_option linter.unusedVariables false
theorem reads_blk' {W : World} {g n size : Nat} {t : TypeId} {cs : Array Value} (h : Blk W g t cs) (hl : cs.toList.length = n * size) : Reads W W.heap.size size (some ⟨g, 0, none⟩) n cs.toList := by
  refine ⟨hl, fun _ => ⟨_, rfl, h.lt, fun j u hu => ?_⟩⟩
  have e1 : (⟨g, 0, none⟩ : Addr).add j = ⟨g, j, none⟩ := by
    unfold Addr.add
    by_cases hj : j = 0 <;> simp [hj]
  rw [e1, h.cell]
  simpa using hu
namespace lawStatSums
def oneL : List LLeaf := [⟨⟨#[110, 99]⟩, 104, false⟩]
theorem one_ok : BookOk oneL := book_ok (by decide +kernel)
theorem one_w : writtenOf (runsOf oneL) = [0, 1, 0, 0, 0, 0, 0, 0] := by decide +kernel
theorem sum_take {l : List Int} {k : Nat} (h : k < l.length) : (l.take (k + 1)).sum = (l.take k).sum + l[k] := by
  rw [List.take_succ_eq_append_getElem h, List.sum_append]; simp
theorem rsum_take {l : List Run} {k : Nat} (h : k < l.length) : runSum (l.take (k + 1)) = runSum (l.take k) + l[k].2 := by
  unfold runSum
  rw [List.take_succ_eq_append_getElem h, List.map_append, List.sum_append]; simp
theorem sum_le {l : List Int} (h : ∀ n ∈ l, 0 ≤ n ∧ n ≤ 90000) : 0 ≤ l.sum ∧ l.sum ≤ 90000 * (l.length : Int) := by
  induction l with
  | nil => simp
  | cons x l ih =>
    have := ih (fun n hn => h n (by simp [hn]))
    have := h x (by simp)
    simp only [List.sum_cons, List.length_cons]
    omega
theorem rsum_le {l : List Run} (h : ∀ x ∈ l, 1 ≤ x.2 ∧ x.2 ≤ 300) : 0 ≤ runSum l ∧ runSum l ≤ 300 * (l.length : Int) := by
  unfold runSum
  induction l with
  | nil => simp
  | cons x l ih =>
    have := ih (fun n hn => h n (by simp [hn]))
    have := h x (by simp)
    simp only [List.map_cons, List.sum_cons, List.length_cons]
    omega
def Loop1 (wv : List Int) (a i : Value) (w0 : World) (wr : World) : Prop := ∃ k : Nat, k ≤ wv.length ∧ i = .int .i64 k ∧ a = .int .i64 (wv.take k).sum ∧ wr = w0
def Loop2 (rs : List Run) (a i : Value) (w0 : World) (wr : World) : Prop := ∃ k n : Nat, k ≤ rs.length ∧ i = .int .i64 k ∧ a = .int .i64 (runSum (rs.take k)) ∧ wr = w0.drewN n
set_option maxRecDepth 100000 in
set_option maxHeartbeats 2000000 in
theorem walk (w : World) (A0 : Option Addr) (c0 : Nat) (ys : List OpAt) (h0 : Reads w w.heap.size 6 A0 ys.length (ocells ys)) (hg : ∀ y ∈ ys, y.Good w) (hn0 : ys.length ≤ 9223372036854775807) :
    Calls Try.prog 3 #[.slice A0 ys.length c0] w (CheckPost w (.bool true)) := by
  have HR0 := Lib.hid h0
  have HG := Lib.hid hg
  have HE0 : errV 0 = .nilIface := rfl
  have HW1 := Lib.hid (fun (W : World) A (h : Reads W W.heap.size 3 A oneL.length (lcells oneL)) => written_any W A 1 oneL h one_ok)
  unfold WrittenPost at HW1
  rw [one_w] at HW1
  clear h0 hg
  go_enter Try.func3, Try.ntmps3
  go_wp2_with fail
  refine (HW1.out _ _ (reads_blk' (n := 1) (size := 3) (Blk.new w 29 _) rfl)).mono ?_
  rintro e w1 ⟨V1, c1, rfl, hO1, hb1⟩
  have HB1 : Hid (Below w.heap.size w w1) := ((Below.refl _ _).alloc (Nat.le_refl _) _).trans (hb1.mono (by simp))
  have HN := Lib.hid (new_doc w1)
  obtain ⟨g1, rfl, hg1, hg2⟩ := hO1.head (by omega)
  have a1 : w1.cell? ⟨g1, 1, none⟩ = some (.int .i64 1) := by rw [hO1.cellAt (by omega)]; rfl
  clear hb1 HW1 hO1 hg1 hg2
  go_wp2_with fail
  refine HN.out.mono ?_
  rintro e w2 ⟨bd, S0, D0, rfl, hd0, hb2⟩
  have HD0 : Hid (DocAt w w1.heap.size bd 0 w2) := DocAt.new hd0 (HB1.out.trans (hb2.mono HB1.out.size)) 0
  have hB : w.heap.size ≤ w1.heap.size := HB1.out.size
  clear hd0 hb2 HN HB1 a1
  go_upto_block 0 with (fail)
  go_cut [6] (fun _ wx => DocAt w w1.heap.size bd 60 wx)
  case first =>
    go_wp2_with fail
    go_loopw [6] (fun i wr => DocLoop w w1.heap.size bd i wr) (fun i _ => 60 - (intOf i).toNat)
    case atStart => exact ⟨0, by omega, rfl, HD0.out⟩
    case round =>
      obtain ⟨k, hk, rfl, HK⟩ := hrel
      have k0 : (0 : Int) ≤ (k : Int) := by omega
      by_cases h1 : k < ys.length
      · have k1 : (k : Int) < (ys.length : Int) := by omega
        by_cases h2 : k < 60
        · have k2 : (k : Int) < 60 := by omega
          obtain ⟨ad, who', nn, what, p', letter', seen, ya, yc, rfl, d0, d1, d2, d3, d4, d5, hC⟩ := HK.out.round hB HR0.out HG.out h1
          have HC := Lib.hid hC
          clear hC HK
          go_wp2_with fail
          refine HC.out.mono ?_
          rintro e w6 ⟨⟨is, ke, rfl⟩, hD⟩
          have HDX := Lib.hid hD
          clear hD HC
          go_wp2_with fail
          go_roundw
          case rel => exact ⟨k + 1, by omega, by go_num, HDX.out⟩
          case measure => simp [intOf]; omega
        · have k2 : ¬ (k : Int) < 60 := by omega
          have HF := Lib.hid (HK.out.more (m := 60) (by omega))
          go_wp2_with fail
          go_meet
          case rel => exact HF.out
      · have k1 : ¬ (k : Int) < (ys.length : Int) := by omega
        have HF := Lib.hid (HK.out.more (m := 60) (by omega))
        go_wp2_with fail
        go_meet
        case rel => exact HF.out
  case rest =>

    obtain ⟨st, S, D, hd, hok, hs, hnn, hl, hbw⟩ := hcut
    obtain ⟨w3, hw3⟩ : ∃ x : World, x = wc := ⟨_, rfl⟩
    subst hw3
    have HD := Lib.hid hd
    have HOK := Lib.hid hok
    have HB3 := Lib.hid hbw
    have hfew := hok.book.few
    have HBK := Lib.hid (book_doc w3 _ _ _ _ _ hd hok)
    clear hd hok hs hnn hbw
    generalize w1.heap.size = B at *
    have hrl := runsOf_len st.book
    have HWL := Lib.hid (writtenOf_len (runsOf st.book))
    have hrb : ∀ x ∈ runsOf st.book, 1 ≤ x.2 ∧ x.2 ≤ 300 := fun x hx => by have := run_le _ x hx; omega
    have HWB := Lib.hid (written_le hrb (by omega))
    have HRB := Lib.hid hrb
    have HS1 := Lib.hid (written_sum (runsOf_who HOK.out.book))
    have HS2 := Lib.hid (runsOf_sum st.book)
    have HS3 := Lib.hid (struck_seen HOK.out.book)
    have HAP := Lib.hid (runs_apart st.book)
    have hts : (textOf st.book).size = (textL st.book).length := strOf_size _
    have HTS := Lib.hid hts
    clear hrb hts
    go_wp2_with fail
    refine HBK.out.mono ?_
    rintro e w4 ⟨V, c, rfl, hO, hb⟩
    have HC := Lib.hid (written_any w4 V c st.book hO.reads HOK.out.book)
    have HD := Lib.hid (HD.out.below hb)
    have HB4 := Lib.hid (HB3.out.trans (hb.mono HB3.out.size))
    clear hO hb HBK HB3
    go_wp2_with fail
    refine HC.out.mono ?_
    rintro e w5 ⟨VW, cw, rfl, hO, hb⟩
    have HOW := Lib.hid hO
    have HD := Lib.hid (HD.out.below hb)
    have HB5 := Lib.hid (HB4.out.trans (hb.mono HB4.out.size))
    have HBK := Lib.hid (book_doc w5 _ _ _ _ _ HD.out HOK.out)
    clear hO hb HC HB4
    go_wp2_with fail
    refine HBK.out.mono ?_
    rintro e w6 ⟨V, c, rfl, hO, hb⟩
    have HC := Lib.hid (runs_any w6 V c st.book hO.reads HOK.out.book)
    have HD := Lib.hid (HD.out.below hb)
    have HOW := Lib.hid (HOW.out.below hb)
    have HB6 := Lib.hid (HB5.out.trans (hb.mono HB5.out.size))
    clear hO hb HBK HB5
    go_wp2_with fail
    refine HC.out.mono ?_
    rintro e w7 ⟨VR, cr, rfl, hO, hb⟩
    have HOR := Lib.hid hO
    have HD := Lib.hid (HD.out.below hb)
    have HOW := Lib.hid (HOW.out.below hb)
    have HB7 := Lib.hid (HB6.out.trans (hb.mono HB6.out.size))
    have HBK := Lib.hid (book_doc w7 _ _ _ _ _ HD.out HOK.out)
    clear hO hb HC HB6
    go_wp2_with fail
    refine HBK.out.mono ?_
    rintro e w8 ⟨V, c, rfl, hO, hb⟩
    have HC := Lib.hid (struck_any w8 V c st.book hO.reads HOK.out.book)
    have HD := Lib.hid (HD.out.below hb)
    have HOW := Lib.hid (HOW.out.below hb)
    have HOR := Lib.hid (HOR.out.below hb)
    have HB8 := Lib.hid (HB7.out.trans (hb.mono HB7.out.size))
    clear hO hb HBK HB7
    have hsl := struckOf_le st.book
    generalize hns : struckOf st.book = ns at *
    have HC : Hid (Calls Try.prog 15 #[.slice V st.book.length c] w8 fun e w' => e = .returned (.tuple #[.int .i64 (ns : Int), .nilIface]) ∧ Below w8.heap.size w8 w') := HC.out.mono fun e w' hh => by rw [← hns]; exact hh
    clear hns
    go_wp2_with fail
    refine HC.out.mono ?_
    rintro e w9 ⟨rfl, hb⟩
    have HD := Lib.hid (HD.out.below hb)
    have HOW := Lib.hid (HOW.out.below hb)
    have HOR := Lib.hid (HOR.out.below hb)
    have HB9 := Lib.hid (HB8.out.trans (hb.mono HB8.out.size))
    clear hb HC HB8
    generalize hwv : writtenOf (runsOf st.book) = wv at *
    generalize hrs : runsOf st.book = rs at *
    clear hwv hrs
    obtain ⟨gw, rfl, hgw1, hgw2⟩ := HOW.out.head (by omega)
    clear hgw1 hgw2
    go_upto_block 2 with (fail)
    go_cut [13, 14] (fun a _ wx => a = .int .i64 wv.sum ∧ wx = w9)
    case first =>
      go_wp2_with fail
      go_loopw [13, 14] (fun a i wr => Loop1 wv a i w9 wr) (fun _ i _ => 8 - (intOf i).toNat)
      case atStart => exact ⟨0, Nat.zero_le _, rfl, rfl, rfl⟩
      case round =>
        obtain ⟨k, hk, rfl, rfl, rfl⟩ := hrel
        rw [HWL.out] at hk
        have k0 : (0 : Int) ≤ (k : Int) := by omega
        have hsb := sum_le (l := wv.take k) (fun n hn => HWB.out n (List.mem_of_mem_take hn))
        rw [List.length_take, HWL.out] at hsb
        have hsb1 := hsb.1
        have hsb2 : (wv.take k).sum ≤ 720000 := by omega
        clear hsb
        by_cases hlt : k < 8
        · have k1 : (k : Int) < 8 := by omega
          have hkl : k < wv.length := by rw [HWL.out]; exact hlt
          have a0 : wr.cell? ⟨gw, k, none⟩ = some (.int .i64 wv[k]) := by rw [HOW.out.cellAt (by omega), ints_at hkl]
          have hvb := HWB.out _ (List.getElem_mem hkl)
          have HT := Lib.hid (sum_take hkl)
          generalize (wv.take k).sum = s at *
          generalize wv[k] = u at *
          have q1 : IntKind.i64.wrap (s + u) = s + u := IntWalk.i64_in _ (by omega)
          clear hkl
          go_wp2_with fail
          go_roundw
          case rel => exact ⟨k + 1, by rw [HWL.out]; omega, by go_num, by rw [HT.out], rfl⟩
          case measure => simp [intOf]; omega
        · have k1 : ¬ (k : Int) < 8 := by omega
          obtain rfl : k = 8 := by omega
          have e8 : wv.take 8 = wv := List.take_of_length_le (by rw [HWL.out]; omega)
          rw [e8]
          clear e8
          go_wp2_with fail
          go_meet
          case rel => exact ⟨rfl, rfl⟩
    case rest =>
        obtain ⟨rfl, hwc⟩ := hcut
        rw [hwc]
        clear hwc
        generalize hsm : wv.sum = sm at *
        have HSM := Lib.hid hsm
        clear hsm
        obtain ⟨wr, hwr⟩ : ∃ x : World, x = w9 := ⟨_, rfl⟩
        subst hwr
        go_wp2_with fail
        go_loopw [15, 16] (fun a i wr' => Loop2 rs a i wr wr') (fun _ i _ => rs.length - (intOf i).toNat)
        case atStart => exact ⟨0, 0, Nat.zero_le _, rfl, rfl, rfl⟩
        case round =>
          obtain ⟨k, nd, hk, rfl, rfl, rfl⟩ := hrel
          have k0 : (0 : Int) ≤ (k : Int) := by omega
          have hsb := rsum_le (l := rs.take k) (fun x hx => HRB.out x (List.mem_of_mem_take hx))
          rw [List.length_take] at hsb
          have hsb1 := hsb.1
          have hsb2 : runSum (rs.take k) ≤ 90000 := by omega
          clear hsb
          by_cases hlt : k < rs.length
          · have k1 : (k : Int) < (rs.length : Int) := by omega
            obtain ⟨g, rfl, _, _⟩ := HOR.out.head (by omega)
            have hxb := HRB.out _ (List.getElem_mem hlt)
            have HT := Lib.hid (rsum_take hlt)
            generalize runSum (rs.take k) = s at *
            have q1 : IntKind.i64.wrap (s + rs[k].2) = s + rs[k].2 := IntWalk.i64_in _ (by omega)
            have b1 : ¬ rs[k].2 < 1 := by omega
            have b2 : decide (rs[k].2 < 1) = false := decide_eq_false b1
            have a1 : wr.cell? ⟨g, k * 2 + 1, none⟩ = some (.int .i64 rs[k].2) := by rw [HOR.out.cellAt (by omega), rcells_at rs k 1 hlt (by omega)]; rfl
            have a0 : wr.cell? ⟨g, k * 2, none⟩ = some (.int .i64 rs[k].1) := by rw [HOR.out.cellAt (by omega), show k * 2 = k * 2 + 0 from rfl, rcells_at rs k 0 hlt (by omega)]; rfl
            rcases Nat.eq_zero_or_pos k with hk0 | hk0
            · have kz : ¬ (0 : Int) < (k : Int) := by omega
              have HK0 := Lib.hid hk0
              clear hk0
              generalize rs[k] = x at *
              obtain ⟨who, cnt⟩ := x
              simp only at a0 a1 q1 b1 b2 hxb HT
              have kz2 : decide ((k : Int) > 0) = false := decide_eq_false kz
              have kz4 : decide (0 < k) = false := decide_eq_false (by omega)
              have kz5 : decide ((0 : Int) < (k : Int)) = false := decide_eq_false kz
              go_wp2_with fail
              go_quiet (fail)
              go_wp2_with fail
              go_roundw
              case rel => exact ⟨k + 1, _, by omega, by go_num, by rw [HT.out], rfl⟩
              case measure => simp [intOf]; omega
            · obtain ⟨j, rfl⟩ : ∃ j, k = j + 1 := ⟨k - 1, by omega⟩
              have hj : j < rs.length := by omega
              have a2 : wr.cell? ⟨g, j * 2, none⟩ = some (.int .i64 rs[j].1) := by rw [HOR.out.cellAt (by omega), show j * 2 = j * 2 + 0 from rfl, rcells_at rs j 0 hj (by omega)]; rfl
              have hne := HAP.out j hlt
              have bne : (rs[j].1 == rs[j + 1].1) = false := by rw [beq_eq_false_iff_ne]; exact hne
              have q2 : IntKind.i64.wrap ((j : Int) + 1 - 1) = (j : Int) := by rw [IntWalk.i64_in _ (by omega)]; omega
              have q3 : IntKind.i64.wrap (((j + 1 : Nat) : Int) - 1) = (j : Int) := by rw [IntWalk.i64_in _ (by omega)]; omega
              have j0 : (0 : Int) ≤ (j : Int) := by omega
              have j1 : (j : Int) < (rs.length : Int) := by omega
              have k2 : (0 : Int) < (j : Int) + 1 := by omega
              clear hne
              generalize rs[j].1 = v at *
              generalize rs[j + 1] = x at *
              obtain ⟨who, cnt⟩ := x
              simp only at a0 a1 q1 b1 b2 hxb HT bne
              have k3 : decide ((0 : Int) < (j : Int) + 1) = true := decide_eq_true k2
              go_wp2_with fail
              go_quiet (fail)
              go_wp2_with fail
              go_roundw
              case rel => exact ⟨j + 1 + 1, _, by omega, by go_num, by rw [HT.out], rfl⟩
              case measure => simp [intOf]; omega
          · have k1 : ¬ (k : Int) < (rs.length : Int) := by omega
            obtain rfl : k = rs.length := by omega
            rw [List.take_length] at hsb1 hsb2 ⊢
            have HX : Hid (DocIs (wr.drewN nd) B S bd st D) := HD.out.drewN nd
            have HBX := Lib.hid (below_drewN HB9.out nd)
            have HT := Lib.hid (text_doc _ _ _ _ _ _ HX.out HOK.out)
            have hs1 := HS1.out
            have hs2 := HS2.out
            have hs3 := HS3.out
            have hts := HTS.out
            have hsm := HSM.out
            have e1 : (sm == ((textOf st.book).size : Int)) = true := by rw [beq_iff_eq]; omega
            have e2 : (runSum rs == ((textOf st.book).size : Int)) = true := by rw [beq_iff_eq]; omega
            have e3 : ((ns : Int) + ((textOf st.book).size : Int) == (st.book.length : Int)) = true := by rw [beq_iff_eq]; omega
            have q1 : IntKind.i64.wrap ((ns : Int) + ((textOf st.book).size : Int)) = (ns : Int) + ((textOf st.book).size : Int) := IntWalk.i64_in _ (by omega)
            clear hs1 hs2 hs3 hts hsm hsb1 hsb2
            generalize runSum rs = sr at *
            generalize htx : textOf st.book = tx at *
            clear htx
            go_wp2_with fail
            refine HT.out.mono ?_
            rintro e w10 ⟨rfl, hb⟩
            have HX := Lib.hid (HX.out.below hb)
            have HB10 := Lib.hid (HBX.out.trans (hb.mono HBX.out.size))
            have HBK := Lib.hid (book_doc w10 _ _ _ _ _ HX.out HOK.out)
            clear hb HT
            go_wp2_with fail
            refine HBK.out.mono ?_
            rintro e w11 ⟨V, c, rfl, hO, hb⟩
            have HB11 := Lib.hid (HB10.out.trans (hb.mono HB10.out.size))
            clear hb hO
            go_wp2_with fail
            go_ret
            exact ⟨by simp [e1, e2, e3], HB11.out⟩
set_option maxRecDepth 100000 in
theorem lifted (os : Os) (started : os.Started) (H : Type) (enc : TypeId × Value → H) :
    ReturnsInHanded {} Try.checked os 3 .any (Rows.statSumsSpec.pre6 enc Try.prog Try.f3 Rows.statSumsRow.domain false) (Rows.statSumsSpec.post enc Try.prog Try.f3 false true false false) := by
  refine returnsInHanded_of_change (C := Try.checked) Try.own started (by kernel_rfl) Try.func3
    (ChangeSpec.witness6 (enc := enc) (C := Try.checked) false ⟨#[], #[.slice none 0 0], []⟩ 8 (by kernel_rfl) (by kernel_rfl) (by kernel_rfl) (by kernel_rfl)) ?_
  intro W base args ds gs before hval0 hW _ _
  have hval : ∀ (j : Nat) t v, Try.f3.params[j]? = some t → args[j]? = some v → Value.okWide Try.prog W .any base t v := hval0
  obtain ⟨p, q, hA0, _⟩ := id hW
  have hA : DataW.TrodAll enc Try.prog W 0 (fun _ => true) true Try.f3.params.toList args.toList ds p := hA0
  rw [Try.params3] at hA hval
  obtain ⟨v0, d0, rfl, rfl, h0⟩ := trodAll_one hA
  obtain ⟨A0, c0, l0, rfl, r0, g0, lc0, cm0⟩ := arg_ops (hval 0 22 v0 rfl rfl) h0
  refine (walk W A0 c0 l0 r0 g0 (by unfold maxLen at cm0; omega)).mono fun e W' ⟨he, hb⟩ => ⟨_, he, ?_⟩
  exact law_post Try.laidOut (tb := 4) (by kernel_rfl) Try.underlying4 (by rw [Try.params3]; simp only [List.mem_cons, List.not_mem_nil, or_false]; rintro t (rfl) <;> exact ⟨by kernel_rfl, of_decide_eq_true (by kernel_rfl)⟩) rfl rfl hW hb

theorem holds : Rows.StatSumsSaid :=
  OpenClaim.holds_of_wide 3 Try.f3 rfl rfl rfl rfl rfl rfl rfl ⟨rfl, rfl, rfl, rfl, rfl⟩ rfl rfl rfl rfl rfl (by kernel_rfl) Try.func3 (by kernel_rfl)
    (of_decide_eq_true (by kernel_rfl)) (by unfold Func.isWrapper; first | (rw [if_pos (by decide +kernel)]; kernel_rfl) | (rw [if_neg (by decide +kernel)]; exact ⟨rfl, rfl⟩))
    (fun os started H enc _ => lifted os started H enc)
#print axioms holds
end lawStatSums
end Go.Proofs.Ytobdollnkndmeaa

/- The end of a line as plain data: what the program's package link does, and how it lies in memory. Conditions: none. -/
import Derived.Deep.DeepCutAuto
import Derived.Deep.RegionHeld3
import Derived.Test.YtlcjgldlblpboaaStrs
namespace Go.Proofs.Ytlcjgldlblpboaa
open Go.RowKit

structure LEnd where
  win : Nat
  wait : Nat
  data : List ByteArray
  acked : Nat
  said : Nat
  ticks : Nat
  got : List ByteArray
  owes : Bool

structure LFrame where
  ack : Bool
  seq : Int
  data : ByteArray

def LFrame.cells (f : LFrame) : List Value := [.bool f.ack, .int .i64 f.seq, .string f.data]
def fcells (l : List LFrame) : List Value := l.flatMap LFrame.cells
theorem fcells_append (a b : List LFrame) : fcells (a ++ b) = fcells a ++ fcells b := by simp [fcells]
theorem fcells_len (l : List LFrame) : (fcells l).length = l.length * 3 := by
  induction l with
  | nil => rfl
  | cons f l ih => simp [fcells, LFrame.cells] at ih ⊢; omega
theorem oneCells_f (l : List LFrame) : OneCells (fcells l) := by
  intro u hu
  obtain ⟨f, _, h⟩ := List.mem_flatMap.1 hu
  simp only [LFrame.cells, List.mem_cons, List.not_mem_nil, or_false] at h
  rcases h with rfl | rfl | rfl <;> rfl

def LEnd.new (win wait : Nat) : LEnd := ⟨win, wait, [], 0, 0, 0, [], false⟩
def LEnd.send (st : LEnd) (s : ByteArray) : LEnd := { st with data := st.data ++ [s] }
/-- How many frames of data it may say, from the first that is not acknowledged. -/
def LEnd.wide (st : LEnd) : Nat := min st.win st.data.length
/-- How many of these it passes over, as it said them already. -/
def LEnd.skip (st : LEnd) : Nat := if st.wait ≤ st.ticks then 0 else max st.said st.acked - st.acked
def LEnd.frame (st : LEnd) (j : Nat) : LFrame := ⟨false, st.acked + j + 1, st.data.getD j ⟨#[]⟩⟩
def LEnd.ackFrames (st : LEnd) : List LFrame := if st.owes then [⟨true, st.got.length, ⟨#[]⟩⟩] else []
def LEnd.outFrames (st : LEnd) : List LFrame := st.ackFrames ++ (List.range' st.skip (st.wide - st.skip)).map st.frame
def LEnd.out (st : LEnd) : LEnd := { st with owes := false, ticks := if st.skip < st.wide then 0 else st.ticks, said := max st.said (st.acked + st.wide) }
def LEnd.tick (st : LEnd) : LEnd := { st with ticks := st.ticks + 1 }
/-- What is wrong with a frame that is heard. -/
def LEnd.hearErr (st : LEnd) (f : LFrame) : Int :=
  if f.ack then (if f.seq < 0 ∨ (st.said : Int) < f.seq then 1 else if f.data.size ≠ 0 then 3 else 0)
  else (if f.seq < 1 then 1 else if 200 < f.data.size then 4 else 0)
def LEnd.hear (st : LEnd) (f : LFrame) : LEnd :=
  if st.hearErr f ≠ 0 then st
  else if f.ack then (if (st.acked : Int) < f.seq then { st with data := st.data.drop (f.seq.toNat - st.acked), acked := f.seq.toNat } else st)
  else { st with got := if f.seq = st.got.length + 1 then st.got ++ [f.data] else st.got, owes := true }

/-- What holds of each end. -/
structure LEnd.Ok (st : LEnd) : Prop where
  win1 : 1 ≤ st.win
  win2 : st.win ≤ 16
  wait1 : 1 ≤ st.wait
  wait2 : st.wait ≤ 20
  data : st.data.length ≤ 100
  acked : st.acked ≤ 100000
  said : st.said ≤ st.acked + st.data.length
  ticks : st.ticks ≤ 100000
  got : st.got.length ≤ 100000

/-- The cells of an end. -/
def LEnd.cells (st : LEnd) (A : Option Addr) (ca : Nat) (G : Option Addr) (cg : Nat) : Array Value :=
  #[.int .i64 st.win, .int .i64 st.wait, .slice A st.data.length ca, .int .i64 st.acked, .int .i64 st.said, .int .i64 st.ticks, .slice G st.got.length cg, .bool st.owes]

/-- The end st lies at block b, its rows at A and G. -/
structure EndAt (w : World) (B b : Nat) (A : Option Addr) (ca : Nat) (G : Option Addr) (cg : Nat) (st : LEnd) : Prop where
  blk : Blk w b 58 (st.cells A ca G cg)
  base : B ≤ b
  data : Own w B 9 1 A st.data.length ca (strs st.data)
  got : Own w B 9 1 G st.got.length cg (strs st.got)
  apart : ∀ g ∈ ob A, g ∉ ob G

theorem elemS : Elem Try.prog 22 9 1 16 := Elem.mk_ (z := .string ⟨#[]⟩) Try.underlying22 (by kernel_rfl) rfl (by decide)
theorem elemF : Elem Try.prog 30 33 3 32 := Elem.mk_ (z := .agg #[.bool false, .int .i64 0, .string ⟨#[]⟩]) Try.underlying30 (by kernel_rfl) rfl (by decide)

/-- The blocks of an end. -/
def endBlocks (b : Nat) (A G : Option Addr) : List Nat := b :: (ob A ++ ob G)
section
variable {w w' : World} {B b ca cg : Nat} {A G : Option Addr} {st : LEnd}
theorem EndAt.bA (h : EndAt w B b A ca G cg st) : b ∉ ob A := h.data.blk_ne h.blk (by decide)
theorem EndAt.bG (h : EndAt w B b A ca G cg st) : b ∉ ob G := h.got.blk_ne h.blk (by decide)
theorem EndAt.lt (h : EndAt w B b A ca G cg st) : ∀ g ∈ endBlocks b A G, B ≤ g ∧ g < w.heap.size := by
  intro g hg
  simp only [endBlocks, List.mem_cons, List.mem_append] at hg
  rcases hg with rfl | hg | hg
  · exact ⟨h.base, h.blk.lt⟩
  · exact h.data.lt g hg
  · exact h.got.lt g hg
theorem EndAt.keep {S : List Nat} (h : EndAt w B b A ca G cg st) (ho : Only S w w') (hS : ∀ g ∈ endBlocks b A G, g ∉ S) : EndAt w' B b A ca G cg st :=
  ⟨ho.blk h.blk (hS b (by simp [endBlocks])), h.base, h.data.only ho (fun g hg => hS g (by simp [endBlocks, hg])), h.got.only ho (fun g hg => hS g (by simp [endBlocks, hg])), h.apart⟩
theorem EndAt.below (h : EndAt w B b A ca G cg st) (ho : Below w.heap.size w w') : EndAt w' B b A ca G cg st := h.keep (S := []) (Only.of_below ho) (by simp)
/-- Another state of the same rows. -/
theorem EndAt.turn {S : List Nat} {st' : LEnd} (h : EndAt w B b A ca G cg st) (ho : Only S w w') (hS : ∀ g ∈ ob A ++ ob G, g ∉ S) (hd : st'.data = st.data) (hg : st'.got = st.got)
    (hb : Blk w' b 58 (st'.cells A ca G cg)) : EndAt w' B b A ca G cg st' :=
  ⟨hb, h.base, by rw [hd]; exact h.data.only ho (fun g hg => hS g (by simp [hg])), by rw [hg]; exact h.got.only ho (fun g hg => hS g (by simp [hg])), h.apart⟩
/-- A letter of the data. -/
theorem EndAt.dataAt {w : World} {B b ca cg : Nat} {A G : Option Addr} {st : LEnd} (h : EndAt w B b A ca G cg st) {j : Nat} (hj : j < st.data.length) :
    ∃ g, A = some ⟨g, 0, none⟩ ∧ w.cell? ⟨g, j, none⟩ = some (.string st.data[j]) := by
  obtain ⟨g, rfl, _, _⟩ := h.data.head (by omega)
  exact ⟨g, rfl, by rw [h.data.cellAt (by omega), strs_get hj]⟩
end
end Go.Proofs.Ytlcjgldlblpboaa

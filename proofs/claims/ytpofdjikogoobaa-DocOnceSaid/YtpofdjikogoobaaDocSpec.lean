/- A document, as it is changed by ops: plain. Conditions: none. -/
import Derived.Test.YtpofdjikogoobaaMarkDel
import Derived.Test.YtpofdjikogoobaaBookWrite
import Derived.Test.YtpofdjikogoobaaVecAdd
import Derived.Test.YtpofdjikogoobaaOpenOp
import Derived.Test.YtpofdjikogoobaaMapLaw
namespace Go.Proofs.Ytpofdjikogoobaa
open Go.RowKit
set_option linter.unusedVariables false
/-- A key of the cuts that were seen by joins. -/
structure JKey where
  place : ByteArray
  dot : LDot
  deriving DecidableEq
def JKey.val (k : JKey) : Value := .agg #[.string k.place, .int .i64 k.dot.who, .int .i64 k.dot.n]
def boolV (b : Bool) : Value := .bool b
structure LDoc where
  book : List LLeaf
  marks : List LMark
  known : List Int
  ops : List LOp
  joined : List (JKey × Bool)
namespace LDoc
def new : LDoc := ⟨[], [], [0, 0, 0, 0, 0, 0, 0, 0], [], []⟩
def gone (d : LDoc) (o : LOp) : Bool := (get (⟨o.place, o.dot⟩ : JKey) d.joined).getD false
def cutE (d : LDoc) (o : LOp) : Int := if d.gone o = true then 0 else cutErr d.marks ⟨o.place, o.dot⟩
def cut (d : LDoc) (o : LOp) : LDoc := if d.gone o = true then d else if cutErr d.marks ⟨o.place, o.dot⟩ = 0 then { d with marks := cutRes d.marks ⟨o.place, o.dot⟩ } else d
def insAll (p : ByteArray) (j : List (JKey × Bool)) (l : List LDot) : List (JKey × Bool) := l.foldl (fun j x => ins ⟨p, x⟩ true j) j
def joinE (d : LDoc) (o : LOp) : Int := joinErr d.marks o.place o.seen
def join (d : LDoc) (o : LOp) : LDoc := if d.joinE o = 0 then { d with marks := joinRes d.marks o.place o.seen, joined := insAll o.place d.joined o.seen } else d
def turnE (d : LDoc) (o : LOp) : Int :=
  if o.what = 1 then writeErr d.book o.place o.letter else if o.what = 2 then strikeErr d.book o.place else if o.what = 3 then d.cutE o else if o.what = 4 then d.joinE o else 0
def turn (d : LDoc) (o : LOp) : LDoc :=
  if o.what = 1 then (if writeErr d.book o.place o.letter = 0 then { d with book := writeRes d.book o.place o.letter } else d)
  else if o.what = 2 then (if strikeErr d.book o.place = 0 then { d with book := strikeRes d.book o.place } else d)
  else if o.what = 3 then d.cut o else if o.what = 4 then d.join o else { d with book := [] }
def applyE (d : LDoc) (o : LOp) : Int :=
  if opErr o ≠ 0 then opErr o else if vdErr d.known o.dot ≠ 0 then vdErr d.known o.dot else if hasRes d.known o.dot = true then 0
  else if addErr d.known o.dot ≠ 0 then addErr d.known o.dot else if 400 ≤ d.ops.length then 4 else d.turnE o
def applyB (d : LDoc) (o : LOp) : Bool := decide (d.applyE o = 0) && !(decide (opErr o = 0) && hasRes d.known o.dot)
def apply (d : LDoc) (o : LOp) : LDoc := if d.applyB o = true then { d.turn o with known := addRes d.known o.dot, ops := d.ops ++ [o] } else d
end LDoc
end Go.Proofs.Ytpofdjikogoobaa

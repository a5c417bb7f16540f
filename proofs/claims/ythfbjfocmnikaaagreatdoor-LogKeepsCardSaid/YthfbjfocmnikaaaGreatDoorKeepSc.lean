/- 12 texts in one: each says ahead of itself what is proved, and its conditions. -/
import Derived.BigQuiet
import Derived.BigRegion
import Derived.Deep.RegionHeld3
import Derived.Test.YthfbjfocmnikaaaGreatDoorDecode
import Derived.Test.YthfbjfocmnikaaaGreatDoorDocApply
import Derived.Test.YthfbjfocmnikaaaGreatDoorDocHelp
import Derived.Test.YthfbjfocmnikaaaGreatDoorDocOps
import Derived.Test.YthfbjfocmnikaaaGreatDoorMark
import Derived.Test.YthfbjfocmnikaaaGreatDoorOpEnc
import Derived.Test.YthfbjfocmnikaaaGreatDoorOpenOps
import Derived.Test.YthfbjfocmnikaaaGreatDoorRefApply
import Derived.Test.YthfbjfocmnikaaaGreatDoorRefCopyAt
import Derived.Test.YthfbjfocmnikaaaGreatDoorSame0
/- op.Pack, walked: the exact bytes of a parcel, or what is wrong. Conditions: stated. -/
namespace Go.Proofs.YthfbjfocmnikaaaGreatDoor
open Go.RowKit
set_option linter.unusedVariables false
def opsErr : List LOp → Int
  | [] => 0
  | o :: t => if opErr o = 0 then opsErr t else opErr o
def twoB (n : Nat) : List UInt8 := [u8 ((n : Int) / 256), u8 ((n : Int) % 256)]
def packBody (l : List LOp) : List UInt8 := l.flatMap fun o => twoB (opBytes o).length ++ opBytes o
theorem opBytes_len {o : LOp} (h : opErr o = 0) : (opBytes o).length ≤ 139 := by
  have := body_len (opOk_of h)
  unfold opBytes
  rw [List.length_append]
  simp only [List.length_cons, List.length_nil]
  omega
/-- Midway: so many ops are written. -/
structure PackSt (w : World) (l : List LOp) (k : Nat) (V : Option Addr) (n cv : Nat) (wr : World) : Prop where
  own : Own wr w.heap.size 5 1 V n cv (bs (twoB l.length ++ packBody (l.take k)))
  bel : Below w.heap.size w wr
  ok : opsErr (l.take k) = 0
end Go.Proofs.YthfbjfocmnikaaaGreatDoor
/- Parcels, as plain laws: what is packed is unpacked; what is unpacked is packed so. Conditions: none of our own. -/
namespace Go.Proofs.YthfbjfocmnikaaaGreatDoor
open Go.RowKit
set_option linter.unusedVariables false
theorem twoB_nat {n : Nat} (h : n ≤ 65535) : ∃ c d : UInt8, twoB n = [c, d] ∧ c.toNat * 256 + d.toNat = n := by
  refine ⟨_, _, rfl, ?_⟩
  have h1 := u8_val (show (0 : Int) ≤ (n : Int) / 256 by omega) (show (n : Int) / 256 ≤ 255 by omega)
  have h2 := u8_val (show (0 : Int) ≤ (n : Int) % 256 by omega) (show (n : Int) % 256 ≤ 255 by omega)
  omega
theorem twoB_of (c d : UInt8) : twoB (c.toNat * 256 + d.toNat) = [c, d] := by
  have hc := UInt8.toNat_lt c
  have hd := UInt8.toNat_lt d
  unfold twoB u8
  have e1 : (((c.toNat * 256 + d.toNat : Nat) : Int) / 256).toNat = c.toNat := by omega
  have e2 : (((c.toNat * 256 + d.toNat : Nat) : Int) % 256).toNat = d.toNat := by omega
  rw [e1, e2]
  simp
end Go.Proofs.YthfbjfocmnikaaaGreatDoor
/- A log of ops as bytes, and what is redone of its beginnings: plain. Conditions: none. -/
namespace Go.Proofs.YthfbjfocmnikaaaGreatDoor
open Go.RowKit
set_option linter.unusedVariables false
/-- An op as it stands in the log. -/
def logOp (o : LOp) : List UInt8 := twoB (opBytes o).length ++ opBytes o
theorem packBody_cons (o : LOp) (l : List LOp) : packBody (o :: l) = logOp o ++ packBody l := by unfold packBody logOp; rw [List.flatMap_cons]
theorem packBody_app (a b : List LOp) : packBody (a ++ b) = packBody a ++ packBody b := by unfold packBody; rw [List.flatMap_append]
theorem packBody_one (o : LOp) : packBody [o] = logOp o := by rw [packBody_cons]; simp [packBody]
theorem logOp_len (o : LOp) : (logOp o).length = 2 + (opBytes o).length := by
  unfold logOp
  rw [List.length_append]
  rfl
/-- Which ops are redone: so many tries. -/
def redoF : Nat → LDoc → List UInt8 → List LOp
  | f + 1, d, c :: e :: t => if t.length < c.toNat * 256 + e.toNat then [] else
      match decOf (strOf (t.take (c.toNat * 256 + e.toNat))) with
      | none => []
      | some o => if d.applyE o ≠ 0 then [] else o :: redoF f (d.apply o) (t.drop (c.toNat * 256 + e.toNat))
  | _, _, _ => []
def redoL (d : LDoc) (t : List UInt8) : List LOp := redoF t.length d t
theorem redoF_more : ∀ (f g : Nat) (d : LDoc) (t : List UInt8), t.length ≤ f → t.length ≤ g → redoF f d t = redoF g d t
  | 0, 0, d, t => fun _ _ => rfl
  | 0, g + 1, d, t => fun h _ => by obtain rfl := List.eq_nil_of_length_eq_zero (Nat.le_zero.1 h); rfl
  | f + 1, 0, d, t => fun _ h => by obtain rfl := List.eq_nil_of_length_eq_zero (Nat.le_zero.1 h); rfl
  | f + 1, g + 1, d, [] => fun _ _ => rfl
  | f + 1, g + 1, d, [_] => fun _ _ => rfl
  | f + 1, g + 1, d, c :: e :: t => fun h1 h2 => by
    simp only [List.length_cons] at h1 h2
    rw [redoF, redoF]
    split
    · rfl
    cases decOf (strOf (t.take (c.toNat * 256 + e.toNat))) with
    | none => rfl
    | some o =>
      simp only
      rw [redoF_more f g (d.apply o) (t.drop (c.toNat * 256 + e.toNat)) (by rw [List.length_drop]; omega) (by rw [List.length_drop]; omega)]
theorem redoL_short (d : LDoc) (t : List UInt8) (h : t.length < 2) : redoL d t = [] := by
  match t, h with
  | [], _ => rfl
  | [_], _ => rfl
theorem redoL_step (d : LDoc) (c e : UInt8) (t : List UInt8) : redoL d (c :: e :: t) = if t.length < c.toNat * 256 + e.toNat then [] else
      match decOf (strOf (t.take (c.toNat * 256 + e.toNat))) with
      | none => []
      | some o => if d.applyE o ≠ 0 then [] else o :: redoL (d.apply o) (t.drop (c.toNat * 256 + e.toNat)) := by
  unfold redoL
  rw [show (c :: e :: t).length = (t.length + 1) + 1 from rfl, redoF]
  split
  · rfl
  cases decOf (strOf (t.take (c.toNat * 256 + e.toNat))) with
  | none => rfl
  | some o =>
    simp only
    rw [redoF_more (t.length + 1) (t.drop (c.toNat * 256 + e.toNat)).length (d.apply o) (t.drop (c.toNat * 256 + e.toNat)) (by rw [List.length_drop]; omega) (Nat.le_refl _)]
/-- Ops that all go, each of them new. -/
def Goes : LDoc → List LOp → Prop
  | _, [] => True
  | d, o :: t => d.applyB o = true ∧ Goes (d.apply o) t
namespace LDoc
/-- Ops one behind the other, whatever is refused. -/
def all (d : LDoc) (l : List LOp) : LDoc := l.foldl apply d
theorem all_app (d : LDoc) (a b : List LOp) : d.all (a ++ b) = (d.all a).all b := List.foldl_append
theorem all_ok : ∀ (l : List LOp) {d : LDoc}, d.Ok → (d.all l).Ok
  | [], _, h => h
  | o :: t, d, h => all_ok t (apply_ok h o)
theorem applyB_E {d : LDoc} {o : LOp} (h : d.applyB o = true) : d.applyE o = 0 := by
  unfold applyB at h
  rw [Bool.and_eq_true, decide_eq_true_iff] at h
  exact h.1
end LDoc
theorem Goes.app : ∀ {d : LDoc} {a b : List LOp}, Goes d (a ++ b) ↔ Goes d a ∧ Goes (d.all a) b
  | d, [], b => ⟨fun h => ⟨trivial, h⟩, fun h => h.2⟩
  | d, o :: a, b => by
    show _ ∧ Goes _ (a ++ b) ↔ _
    rw [Goes.app]
    exact ⟨fun h => ⟨⟨h.1, h.2.1⟩, h.2.2⟩, fun h => ⟨h.1.1, h.1.2, h.2⟩⟩
theorem Goes.take {d : LDoc} {l : List LOp} (h : Goes d l) (k : Nat) : Goes d (l.take k) := (Goes.app.1 (by rw [List.take_append_drop]; exact h : Goes d (l.take k ++ l.drop k))).1
theorem Goes.ops : ∀ {d : LDoc} {l : List LOp}, Goes d l → (d.all l).ops = d.ops ++ l
  | d, [] => fun _ => by show d.ops = _; simp
  | d, o :: t => fun h => by
    show ((d.apply o).all t).ops = _
    rw [Goes.ops h.2]
    rcases LDoc.apply_three (d := d) o with ⟨_, _, q⟩ | ⟨q, _⟩ | ⟨_, q, _⟩
    · rw [q]; simp
    · rw [h.1] at q; cases q
    · rw [h.1] at q; cases q
theorem Goes.errs : ∀ {d : LDoc} {l : List LOp}, Goes d l → ∀ o ∈ l, opErr o = 0
  | d, [] => fun _ o ho => by simp at ho
  | d, x :: t => fun h o ho => by
    rcases List.mem_cons.1 ho with rfl | ho
    · have := LDoc.applyB_E h.1
      unfold LDoc.applyE at this
      split at this
      · omega
      · omega
    · exact Goes.errs h.2 o ho
/-- How many ops are whole among so many bytes. -/
def whole : List LOp → Nat → Nat
  | [], _ => 0
  | o :: t, k => if k < (logOp o).length then 0 else whole t (k - (logOp o).length) + 1
theorem whole_le : ∀ (l : List LOp) (k : Nat), whole l k ≤ l.length
  | [], _ => Nat.le_refl _
  | o :: t, k => by
    unfold whole
    split
    · omega
    · have := whole_le t (k - (logOp o).length); rw [List.length_cons]; omega
theorem logOp_two (o : LOp) (h : opErr o = 0) : ∃ c e : UInt8, logOp o = c :: e :: opBytes o ∧ c.toNat * 256 + e.toNat = (opBytes o).length := by
  have := opBytes_len h
  obtain ⟨c, e, h1, h2⟩ := twoB_nat (n := (opBytes o).length) (by omega)
  exact ⟨c, e, by unfold logOp; rw [h1]; rfl, h2⟩
/-- What is redone of a beginning of a log. -/
theorem redo_take : ∀ (l : List LOp) (d : LDoc) (k : Nat), Goes d l → redoL d ((packBody l).take k) = l.take (whole l k)
  | [], d, k => fun _ => by
    have : (packBody []).take k = [] := by simp [packBody]
    rw [this]; rfl
  | o :: t, d, k => fun h => by
    have he := Goes.errs h o (by simp)
    obtain ⟨c, e, h1, h2⟩ := logOp_two o he
    have hl := logOp_len o
    rw [packBody_cons]
    unfold whole
    by_cases hk : k < (logOp o).length
    · rw [if_pos hk, List.take_append_of_le_length (by omega), h1]
      match k, hk with
      | 0, _ => rfl
      | 1, _ => rfl
      | k + 2, hk =>
        rw [List.take_succ_cons, List.take_succ_cons, redoL_step, if_pos (by rw [List.length_take]; omega)]
        rfl
    · rw [if_neg hk, List.take_append, List.take_of_length_le (by omega), h1]
      show redoL d (c :: e :: (opBytes o ++ (packBody t).take _)) = _
      rw [redoL_step, if_neg (by rw [List.length_append]; omega), h2, List.take_append_of_le_length (Nat.le_refl _), List.take_of_length_le (Nat.le_refl _), dec_enc he, List.drop_append_of_le_length (Nat.le_refl _), List.drop_of_length_le (Nat.le_refl _), List.nil_append]
      simp only
      rw [if_neg (by rw [LDoc.applyB_E h.1]; simp), List.take_succ_cons, ← h1, redo_take t (d.apply o) _ h.2]
theorem whole_bytes : ∀ (l : List LOp) (k : Nat), (packBody (l.take (whole l k))).length ≤ k
  | [], k => by simp [packBody]
  | o :: t, k => by
    unfold whole
    split
    · simp [packBody]
    · have := whole_bytes t (k - (logOp o).length)
      rw [List.take_succ_cons, packBody_cons, List.length_append]
      omega
theorem whole_most : ∀ (l : List LOp) (k j : Nat), j ≤ l.length → (packBody (l.take j)).length ≤ k → j ≤ whole l k
  | [], k, j => fun h _ => by simp at h; subst h; exact Nat.zero_le _
  | o :: t, k, 0 => fun _ _ => Nat.zero_le _
  | o :: t, k, j + 1 => fun h1 h2 => by
    rw [List.take_succ_cons, packBody_cons, List.length_append] at h2
    unfold whole
    rw [if_neg (by omega)]
    have := whole_most t (k - (logOp o).length) j (by simpa using h1) (by omega)
    omega
theorem whole_all (l : List LOp) (k : Nat) (h : (packBody l).length ≤ k) : whole l k = l.length := by
  have h1 := whole_most l k l.length (Nat.le_refl _) (by rw [List.take_length]; exact h)
  have h2 := whole_le l k
  omega
theorem whole_min (l : List LOp) (k : Nat) : ((packBody l).take k).take ((packBody (l.take (whole l k))).length) = packBody (l.take (whole l k)) := by
  have h1 := whole_bytes l k
  rw [List.take_take, Nat.min_eq_left h1]
  generalize whole l k = m at *
  have h2 : packBody l = packBody (l.take m) ++ packBody (l.drop m) := by rw [← packBody_app, List.take_append_drop]
  rw [h2, List.take_append_of_le_length (Nat.le_refl _), List.take_of_length_le (Nat.le_refl _)]
theorem packBody_few {l : List LOp} (h : ∀ o ∈ l, opErr o = 0) : (packBody l).length ≤ 141 * l.length := by
  induction l with
  | nil => simp [packBody]
  | cons o t ih =>
    have := ih (fun x hx => h x (by simp [hx]))
    have h2 := opBytes_len (h o (by simp))
    rw [packBody_cons, List.length_append, logOp_len, List.length_cons]
    omega
end Go.Proofs.YthfbjfocmnikaaaGreatDoor
/- A log in memory, and what its steps make of it: plain lemmas. Conditions: none. -/
namespace Go.Proofs.YthfbjfocmnikaaaGreatDoor
open Go.RowKit
set_option linter.unusedVariables false
/-- A log: its bytes are a beginning of those of some ops. -/
structure LLog where
  all : List LOp
  m : Nat
  safe : Nat
  left : Int
  stopped : Bool
namespace LLog
def bytes (L : LLog) : List UInt8 := (packBody L.all).take L.m
def kept (L : LLog) : List LOp := L.all.take (whole L.all L.m)
def doc (L : LLog) : LDoc := LDoc.new.all L.kept
def new : LLog := ⟨[], 0, 0, -1, false⟩
structure Ok (L : LLog) : Prop where
  goes : Goes LDoc.new L.all
  len : L.m ≤ (packBody L.all).length
  safe : L.safe ≤ L.m
  full : L.stopped = false → L.m = (packBody L.all).length
  left : -1 ≤ L.left ∧ L.left ≤ 9223372036854775807
def down (n : Int) : Int := if n < 0 then -1 else n - 1
def fail (L : LLog) (n : Int) : LLog := { L with left := if n < -1 then -1 else n }
/-- A step: does it stop? -/
def step (L : LLog) : LLog := { L with left := down L.left, stopped := decide (L.left = 0) }
def putE (L : LLog) (o : LOp) : Int := if L.stopped = true then 6 else if L.doc.applyE o ≠ 0 then L.doc.applyE o else if L.doc.applyB o = false then 0 else if L.left = 0 then 6 else 0
def putB (L : LLog) (o : LOp) : Bool := !L.stopped && L.doc.applyB o && !decide (L.left = 0)
def put (L : LLog) (o : LOp) : LLog :=
  if L.stopped = true then L else if L.doc.applyB o = false then L
  else if L.left = 0 then ⟨L.all ++ [o], L.m + (logOp o).length / 2, L.safe, -1, true⟩
  else ⟨L.all ++ [o], L.m + (logOp o).length, L.safe, down L.left, false⟩
def syncE (L : LLog) : Int := if L.stopped = true then 6 else if L.left = 0 then 6 else 0
def sync (L : LLog) : LLog := if L.stopped = true then L else if L.left = 0 then { L with left := -1, stopped := true } else { L with left := down L.left, safe := L.m }
/-- How many bytes are there behind a crash. -/
def high (L : LLog) (keep : Int) : Nat := L.safe + (max 0 (min keep ((L.m : Int) - L.safe))).toNat
def crash (L : LLog) (keep : Int) : LLog := ⟨L.all.take (whole L.all (L.high keep)), (packBody (L.all.take (whole L.all (L.high keep)))).length, (packBody (L.all.take (whole L.all (L.high keep)))).length, -1, false⟩
theorem left_low : (-1 : Int) ≤ -1 ∧ (-1 : Int) ≤ 9223372036854775807 := by decide
theorem new_ok : new.Ok := ⟨trivial, Nat.le_refl _, Nat.le_refl _, fun _ => rfl, by decide⟩
theorem Ok.kept_all {L : LLog} (h : L.Ok) (hs : L.stopped = false) : L.kept = L.all := by
  unfold kept
  rw [whole_all _ _ (by rw [h.full hs]; exact Nat.le_refl _), List.take_length]
theorem Ok.bytes_all {L : LLog} (h : L.Ok) (hs : L.stopped = false) : L.bytes = packBody L.all := by
  unfold bytes
  rw [h.full hs, List.take_length]
theorem Ok.doc_ok {L : LLog} (h : L.Ok) : L.doc.Ok := LDoc.all_ok _ LDoc.new_ok
theorem Ok.bytes_len {L : LLog} (h : L.Ok) : L.bytes.length = L.m := by unfold bytes; rw [List.length_take, Nat.min_eq_left h.len]
theorem Ok.few {L : LLog} (h : L.Ok) : L.all.length ≤ 400 := by
  have h1 := h.goes.ops
  have h2 := (LDoc.all_ok L.all LDoc.new_ok).few
  rw [h1] at h2
  simpa [LDoc.new] using h2
theorem Ok.small {L : LLog} (h : L.Ok) : (packBody L.all).length ≤ 56400 := by
  have h1 := packBody_few (Goes.errs h.goes)
  have h2 := h.few
  omega
theorem Ok.m_small {L : LLog} (h : L.Ok) : L.m ≤ 56400 := Nat.le_trans h.len h.small
theorem down_range {n : Int} (h : -1 ≤ n ∧ n ≤ 9223372036854775807) : -1 ≤ down n ∧ down n ≤ 9223372036854775807 := by unfold down; split <;> omega
theorem Ok.goes_put {L : LLog} (h : L.Ok) (hs : L.stopped = false) {o : LOp} (hb : L.doc.applyB o = true) : Goes LDoc.new (L.all ++ [o]) := by
  refine Goes.app.2 ⟨h.goes, ?_, trivial⟩
  unfold doc at hb
  rw [h.kept_all hs] at hb
  exact hb
theorem Ok.fail {L : LLog} (h : L.Ok) {n : Int} (hn : n ≤ 9223372036854775807) : (L.fail n).Ok :=
  ⟨h.goes, h.len, h.safe, h.full, by unfold LLog.fail; simp only; split <;> omega⟩
theorem Ok.put {L : LLog} (h : L.Ok) (o : LOp) : (L.put o).Ok := by
  unfold LLog.put
  split
  · exact h
  rename_i hs
  have hs : L.stopped = false := by simpa using hs
  split
  · exact h
  rename_i hb
  have hb : L.doc.applyB o = true := by simpa using hb
  have hg := h.goes_put hs hb
  have hl : (packBody (L.all ++ [o])).length = (packBody L.all).length + (logOp o).length := by rw [packBody_app, packBody_one, List.length_append]
  have hf := h.full hs
  have h1 := h.safe
  split
  · exact ⟨hg, by simp only; rw [hl]; omega, by simp only; omega, fun hh => by simp at hh, left_low⟩
  · exact ⟨hg, by simp only; rw [hl]; omega, by simp only; omega, fun _ => by simp only; rw [hl, hf], down_range h.left⟩
theorem Ok.sync {L : LLog} (h : L.Ok) : L.sync.Ok := by
  unfold LLog.sync
  split
  · exact h
  split
  · exact ⟨h.goes, h.len, h.safe, fun hh => by simp at hh, left_low⟩
  · exact ⟨h.goes, h.len, Nat.le_refl _, h.full, down_range h.left⟩
theorem Ok.crash {L : LLog} (h : L.Ok) (keep : Int) : (L.crash keep).Ok :=
  ⟨h.goes.take _, Nat.le_refl _, Nat.le_refl _, fun _ => rfl, left_low⟩
theorem high_le {L : LLog} (h : L.Ok) (keep : Int) : L.high keep ≤ L.m := by
  have := h.safe
  unfold high
  omega
/-- What is redone of the bytes of a log. -/
theorem Ok.redo {L : LLog} (h : L.Ok) {k : Nat} (hk : k ≤ L.m) : redoL LDoc.new (L.bytes.take k) = L.all.take (whole L.all k) := by
  unfold bytes
  rw [List.take_take, Nat.min_eq_left hk]
  exact redo_take _ _ _ h.goes
theorem whole_snoc {l : List LOp} {o : LOp} {k : Nat} (hk : k < (logOp o).length) : whole (l ++ [o]) ((packBody l).length + k) = l.length := by
  have h1 := whole_most (l ++ [o]) ((packBody l).length + k) l.length (by simp) (by rw [List.take_left]; omega)
  have h2 := whole_bytes (l ++ [o]) ((packBody l).length + k)
  have h3 := whole_le (l ++ [o]) ((packBody l).length + k)
  rw [List.length_append, List.length_cons, List.length_nil] at h3
  rcases Nat.lt_or_ge l.length (whole (l ++ [o]) ((packBody l).length + k)) with h4 | h4
  · rw [List.take_of_length_le (by rw [List.length_append, List.length_cons, List.length_nil]; omega), packBody_app, packBody_one, List.length_append] at h2
    omega
  · omega
section
variable {L : LLog} (h : L.Ok) (hs : L.stopped = false) {o : LOp} (hb : L.doc.applyB o = true)
include h hs hb
theorem put_go (hl : L.left ≠ 0) : L.put o = ⟨L.all ++ [o], L.m + (logOp o).length, L.safe, down L.left, false⟩ ∧ (L.put o).doc = L.doc.apply o ∧ (L.put o).bytes = L.bytes ++ logOp o ∧ L.putE o = 0 ∧ L.putB o = true := by
  have e1 : L.put o = ⟨L.all ++ [o], L.m + (logOp o).length, L.safe, down L.left, false⟩ := by unfold put; rw [if_neg (by rw [hs]; decide), if_neg (by rw [hb]; decide), if_neg hl]
  have hf := h.full hs
  have hpl : (packBody (L.all ++ [o])).length = L.m + (logOp o).length := by rw [packBody_app, packBody_one, List.length_append, hf]
  refine ⟨e1, ?_, ?_, ?_, ?_⟩
  · rw [e1]
    unfold doc
    rw [h.kept_all hs]
    unfold kept
    simp only
    rw [whole_all _ _ (by rw [hpl]; exact Nat.le_refl _), List.take_length, LDoc.all_app]
    rfl
  · rw [e1, h.bytes_all hs]
    unfold bytes
    simp only
    rw [List.take_of_length_le (by rw [hpl]; exact Nat.le_refl _), packBody_app, packBody_one]
  · unfold putE
    rw [if_neg (by rw [hs]; decide), if_neg (by rw [LDoc.applyB_E hb]; simp), if_neg (by rw [hb]; decide), if_neg hl]
  · unfold putB
    rw [hs, hb, decide_eq_false hl]; rfl
theorem put_stop (hl : L.left = 0) : L.put o = ⟨L.all ++ [o], L.m + (logOp o).length / 2, L.safe, -1, true⟩ ∧ (L.put o).doc = LDoc.new.all (redoL LDoc.new L.bytes) ∧ (L.put o).bytes = L.bytes ++ (logOp o).take ((logOp o).length / 2) ∧ L.putE o = 6 ∧ L.putB o = false := by
  have e1 : L.put o = ⟨L.all ++ [o], L.m + (logOp o).length / 2, L.safe, -1, true⟩ := by unfold put; rw [if_neg (by rw [hs]; decide), if_neg (by rw [hb]; decide), if_pos hl]
  have hf := h.full hs
  have hlen := logOp_len o
  refine ⟨e1, ?_, ?_, ?_, ?_⟩
  · have hr := h.redo (Nat.le_refl L.m)
    rw [List.take_of_length_le (by rw [h.bytes_len]; exact Nat.le_refl _)] at hr
    rw [hr, e1]
    unfold doc kept
    simp only
    have hw := whole_snoc (l := L.all) (o := o) (k := (logOp o).length / 2) (by omega)
    rw [hf, hw, List.take_left, whole_all _ _ (Nat.le_refl _), List.take_length]
  · rw [e1, h.bytes_all hs]
    unfold bytes
    simp only
    rw [packBody_app, packBody_one, hf, List.take_append, List.take_of_length_le (by omega), Nat.add_sub_cancel_left]
  · unfold putE
    rw [if_neg (by rw [hs]; decide), if_neg (by rw [LDoc.applyB_E hb]; simp), if_neg (by rw [hb]; decide), if_pos hl]
  · unfold putB
    rw [hs, hb, decide_eq_true hl]; rfl
end
/-- The cells of a log. -/
def cells (L : LLog) (bd : Nat) : Array Value := #[.pointer (some ⟨bd, 0, none⟩), .string (strOf L.bytes), .int .i64 (L.safe : Nat), .int .i64 L.left, .bool L.stopped]
end LLog
/-- The log in block b has the cells of L, its document reads as st; its blocks are S. -/
structure LogSt (w : World) (B : Nat) (S : List Nat) (b : Nat) (L : LLog) (bd : Nat) (SD : List Nat) (D : DLay) (st : LDoc) : Prop where
  blk : Blk w b 118 (L.cells bd)
  doc : DocIs w B SD bd st D
  sub : ∀ g ∈ SD, g ∈ S
  subb : b ∈ S
  apart : b ∉ SD
  own : ∀ g ∈ S, B ≤ g ∧ g < w.heap.size
namespace LogSt
variable {w w' : World} {B : Nat} {S T : List Nat} {b bd : Nat} {L L' : LLog} {SD : List Nat} {D : DLay} {st st' : LDoc}
theorem only (h : LogSt w B S b L bd SD D st) (ho : Only T w w') (hT : ∀ g ∈ T, g ∉ S) : LogSt w' B S b L bd SD D st :=
  ⟨ho.blk h.blk (fun hm => hT _ hm h.subb), h.doc.only ho (fun g hg hm => hT g hg (h.sub g hm)), h.sub, h.subb, h.apart, fun g hg => ⟨(h.own g hg).1, Nat.lt_of_lt_of_le (h.own g hg).2 ho.size⟩⟩
theorem below (h : LogSt w B S b L bd SD D st) (hb : Below w.heap.size w w') : LogSt w' B S b L bd SD D st := h.only (T := []) (Only.of_below hb) (by simp)
theorem drewN (h : LogSt w B S b L bd SD D st) (n : Nat) : LogSt (w.drewN n) B S b L bd SD D st := h.below (below_drewN (Below.refl _ _) n)
/-- The log's own cells have been written; its document is the same. -/
theorem set (h : LogSt w B S b L bd SD D st) (ho : Only [b] w w') (hb : Blk w' b 118 (L'.cells bd)) : LogSt w' B S b L' bd SD D st :=
  ⟨hb, h.doc.only ho (fun g hg hm => h.apart (by simp at hg; exact hg ▸ hm)), h.sub, h.subb, h.apart, fun g hg => ⟨(h.own g hg).1, Nat.lt_of_lt_of_le (h.own g hg).2 ho.size⟩⟩
/-- Its document has gone on. -/
theorem turn (h : LogSt w B S b L bd SD D st) (ht : DocTo w B SD bd st' w') : ∃ S' SD' D', LogSt w' B S' b L bd SD' D' st' ∧ Only S w w' ∧ (∀ g ∈ S', g ∈ S ∨ w.heap.size ≤ g) ∧ Only SD w w' := by
  obtain ⟨SD', D', h1, h2, h3⟩ := ht
  have hb := h.own b h.subb
  refine ⟨b :: SD', SD', D', ⟨h2.blk h.blk h.apart, h1, fun g hg => by simp [hg], by simp, fun hm => ?_, fun g hg => ?_⟩, h2.mono (fun g hg => .inl (h.sub g hg)), fun g hg => ?_, h2⟩
  · rcases h3 _ hm with h4 | h4
    · exact h.apart h4
    · omega
  · rcases List.mem_cons.1 hg with rfl | hg
    · exact ⟨hb.1, Nat.lt_of_lt_of_le hb.2 h2.size⟩
    · exact h1.own g hg
  · rcases List.mem_cons.1 hg with rfl | hg
    · exact .inl h.subb
    · rcases h3 g hg with h4 | h4
      · exact .inl (h.sub g h4)
      · exact .inr h4
/-- Another document is laid. -/
theorem lay (h : LogSt w B S b L bd SD D st) (hB : B ≤ w.heap.size) {w1 : World} (hb1 : Below w.heap.size w w1) {bd' : Nat} {SD' : List Nat} {D' : DLay} (hd : DocIs w1 w.heap.size SD' bd' st' D') (ho : Only [b] w1 w') (hb : Blk w' b 118 (L'.cells bd')) :
    LogSt w' B (b :: SD') b L' bd' SD' D' st' ∧ Only S w w' ∧ ∀ g ∈ b :: SD', g ∈ S ∨ w.heap.size ≤ g := by
  have hbo := h.own b h.subb
  have hna : b ∉ SD' := fun hm => by have := (hd.own b hm).1; omega
  refine ⟨⟨hb, ?_, fun g hg => by simp [hg], by simp, hna, fun g hg => ?_⟩, ?_, fun g hg => ?_⟩
  · have h1 := hd.only ho (fun g hg hm => by simp at hg; subst hg; exact hna hm)
    exact { h1 with book := h1.book.mono hB, marks := h1.marks.mono hB, known := h1.known.mono hB, ops := h1.ops.mono hB, seen := fun y hy => (h1.seen y hy).mono hB, own := fun g hg => ⟨Nat.le_trans hB (h1.own g hg).1, (h1.own g hg).2⟩ }
  · have hsz := hb1.size
    have hs2 := ho.size
    rcases List.mem_cons.1 hg with rfl | hg
    · exact ⟨hbo.1, by omega⟩
    · have := hd.own g hg
      exact ⟨by omega, by omega⟩
  · exact ((Only.of_below hb1).trans ((ho.mono (S' := [b]) (by intro i hi; exact .inl hi)).mono (fun i hi => by simp at hi; subst hi; exact .inl h.subb)))
  · rcases List.mem_cons.1 hg with rfl | hg
    · exact .inl h.subb
    · exact .inr (hd.own g hg).1
theorem base (h : LogSt w B S b L bd SD D st) : B ≤ b ∧ b < w.heap.size := h.own b h.subb
end LogSt
/-- The log in block b reads as L. -/
abbrev LogIs (w : World) (B : Nat) (S : List Nat) (b : Nat) (L : LLog) (bd : Nat) (SD : List Nat) (D : DLay) : Prop := LogSt w B S b L bd SD D L.doc
def LogTo (w : World) (B : Nat) (S : List Nat) (b : Nat) (L : LLog) (w' : World) : Prop := ∃ S' bd SD D, LogIs w' B S' b L bd SD D ∧ Only S w w' ∧ ∀ g ∈ S', g ∈ S ∨ w.heap.size ≤ g
end Go.Proofs.YthfbjfocmnikaaaGreatDoor
/- log.New, step, Fail, Sync, Doc, Bytes, Safe, walked. Conditions: the log is right. -/
namespace Go.Proofs.YthfbjfocmnikaaaGreatDoor
open Go.RowKit
set_option linter.unusedVariables false
def LNewPost (w : World) (e : Ending) (w' : World) : Prop := ∃ b S bd SD D, e = .returned (.pointer (some ⟨b, 0, none⟩)) ∧ LogIs w' w.heap.size S b LLog.new bd SD D ∧ Below w.heap.size w w'
set_option maxRecDepth 100000 in
theorem lnew_any (w : World) : Calls Tryz.prog 9 #[] w (LNewPost w) := by
  have HN := Lib.hid (new_doc w)
  go_enter Tryz.func9, Tryz.ntmps9
  go_wp2_with fail
  refine HN.out.mono ?_
  rintro e w1 ⟨bd, SD, D, rfl, hd, hb⟩
  have HD := Lib.hid hd
  have HB := Lib.hid hb
  have hsz := hb.size
  clear hd hb HN
  go_wp2_with fail
  go_ret
  have hlt : bd < w1.heap.size := (HD.out.own bd HD.out.subb).2
  refine ⟨w1.heap.size, w1.heap.size :: SD, bd, SD, D, rfl, ⟨?_, HD.out.below ((Below.refl _ _).alloc (Nat.le_refl _) _), fun g hg => by simp [hg], by simp, fun hm => by have := (HD.out.own _ hm).2; omega, fun g hg => ?_⟩, HB.out.alloc HB.out.size _⟩
  · exact Blk.new w1 118 _
  · rcases List.mem_cons.1 hg with rfl | hg
    · exact ⟨hsz, by simp⟩
    · have := HD.out.own g hg
      exact ⟨this.1, by simp; omega⟩
section
variable (w : World) (B : Nat) (S : List Nat) (b : Nat) (L : LLog) (bd : Nat) (SD : List Nat) (D : DLay) (st : LDoc) (h : LogSt w B S b L bd SD D st) (ok : L.Ok)
/-- What a step of a log leaves, its document where it was. -/
def LogOn (w : World) (B : Nat) (S : List Nat) (b : Nat) (bd : Nat) (SD : List Nat) (D : DLay) (st : LDoc) (L' : LLog) (v : Value) (e : Ending) (w' : World) : Prop := e = .returned v ∧ LogSt w' B S b L' bd SD D st ∧ Only [b] w w'
include h
theorem five_ : w.cell? ⟨b, 0, none⟩ = some (.pointer (some ⟨bd, 0, none⟩)) ∧ w.cell? ⟨b, 1, none⟩ = some (.string (strOf L.bytes)) ∧ w.cell? ⟨b, 2, none⟩ = some (.int .i64 (L.safe : Nat)) ∧ w.cell? ⟨b, 3, none⟩ = some (.int .i64 L.left) ∧ w.cell? ⟨b, 4, none⟩ = some (.bool L.stopped) :=
  ⟨by rw [h.blk.cell]; rfl, by rw [h.blk.cell]; rfl, by rw [h.blk.cell]; rfl, by rw [h.blk.cell]; rfl, by rw [h.blk.cell]; rfl⟩
set_option maxRecDepth 100000 in
theorem ldoc_any : Calls Tryz.prog 13 #[.pointer (some ⟨b, 0, none⟩)] w (fun e w' => e = .returned (.pointer (some ⟨bd, 0, none⟩)) ∧ w' = w) := by
  obtain ⟨c0, c1, c2, c3, c4⟩ := five_ w B S b L bd SD D st h
  clear h
  go_enter Tryz.func13, Tryz.ntmps13
  go_wp2_with fail
  go_ret
  exact ⟨rfl, rfl⟩
include ok
set_option maxRecDepth 100000 in
theorem lstep_any : Calls Tryz.prog 64 #[.pointer (some ⟨b, 0, none⟩)] w (LogOn w B S b bd SD D st L.step (.bool (decide (L.left = 0)))) := by
  obtain ⟨c0, c1, c2, c3, c4⟩ := five_ w B S b L bd SD D st h
  have f3 := h.blk.frozen 3
  have f4 := h.blk.frozen 4
  obtain ⟨n, hn⟩ : ∃ n, n = L.left := ⟨_, rfl⟩
  rw [← hn] at c3
  have l0 : -1 ≤ n := by rw [hn]; exact ok.left.1
  have l1 : n ≤ 9223372036854775807 := by rw [hn]; exact ok.left.2
  have hmx : ∀ W, (Builtin.max_ #[3, 3] 3 #[.int .i64 (-1), .int .i64 (n - 1)]).run Tryz.prog W = .ok (.int .i64 (LLog.down n)) W := fun W => by rw [run_max_int2]; congr 2; unfold LLog.down; split <;> split <;> omega
  have HF : Hid (LogSt ((w.setCell ⟨b, 4, none⟩ (.bool (n == 0))).setCell ⟨b, 3, none⟩ (.int .i64 (LLog.down n))) B S b L.step bd SD D st) := by
    show LogSt _ B S b _ bd SD D st
    refine LogSt.set (L' := L.step) h (((Only.refl [b] w).setCell (.inl (by simp)) _).setCell (.inl (by simp)) _) ?_
    have := (h.blk.set_ 4 (.bool (n == 0))).set_ 3 (.int .i64 (LLog.down n))
    have e : ((L.cells bd).setIfInBounds 4 (.bool (n == 0))).setIfInBounds 3 (.int .i64 (LLog.down n)) = L.step.cells bd := by
      unfold LLog.cells LLog.step LLog.bytes
      rw [hn]
      simp
      rw [Bool.eq_iff_iff]; simp
    rw [e] at this
    exact this
  have HNL := Lib.hid hn
  clear h ok hn
  go_enter Tryz.func64, Tryz.ntmps64
  go_wp2_with fail
  go_ret
  refine ⟨?_, HF.out, ((Only.refl [b] w).setCell (.inl (by simp)) _).setCell (.inl (by simp)) _⟩
  rw [← HNL.out]
  have : decide (n = 0) = (n == 0) := by rw [Bool.eq_iff_iff]; simp
  rw [this]
  rfl
set_option maxRecDepth 100000 in
theorem lsync_any : Calls Tryz.prog 11 #[.pointer (some ⟨b, 0, none⟩)] w (LogOn w B S b bd SD D st L.sync (errV L.syncE)) := by
  obtain ⟨c0, c1, c2, c3, c4⟩ := five_ w B S b L bd SD D st h
  have HS := Lib.hid (lstep_any w B S b L bd SD D st h ok)
  have HI := Lib.hid h
  have hm : (strOf L.bytes).size = L.m := by rw [strOf_sz, ok.bytes_len]
  have HM := Lib.hid hm
  clear ok h hm
  cases hst : L.stopped with
  | true =>
    have e1 : L.sync = L := by unfold LLog.sync; rw [if_pos hst]
    have e2 : L.syncE = 6 := by unfold LLog.syncE; rw [if_pos hst]
    rw [hst] at c4
    rw [e1, e2]
    clear e1 e2 hst
    go_enter Tryz.func11, Tryz.ntmps11
    go_wp2_with fail
    go_ret
    exact ⟨rfl, HI.out, Only.refl _ _⟩
  | false =>
    rw [hst] at c4
    by_cases hl : L.left = 0
    · have e1 : L.sync = L.step := by unfold LLog.sync LLog.step LLog.down; rw [if_neg (by simp [hst]), if_pos hl]; simp [hl]
      have e2 : L.syncE = 6 := by unfold LLog.syncE; rw [if_neg (by simp [hst]), if_pos hl]
      rw [e1, e2]
      rw [decide_eq_true hl] at HS
      clear e1 e2 hst hl
      go_enter Tryz.func11, Tryz.ntmps11
      go_wp2_with fail
      refine HS.out.mono ?_
      rintro e w1 ⟨rfl, h1, h2⟩
      have H1 := Lib.hid h1
      have H2 := Lib.hid h2
      clear h1 h2
      go_wp2_with fail
      go_ret
      exact ⟨rfl, H1.out, H2.out⟩
    · have e2 : L.syncE = 0 := by unfold LLog.syncE; rw [if_neg (by simp [hst]), if_neg hl]
      have HSY : Hid (L.sync = { L.step with safe := L.m }) := by show _ = _; unfold LLog.sync LLog.step; rw [if_neg (by simp [hst]), if_neg hl, decide_eq_false hl, hst]
      rw [e2]
      rw [decide_eq_false hl] at HS
      clear e2 hst hl
      go_enter Tryz.func11, Tryz.ntmps11
      go_wp2_with fail
      refine HS.out.mono ?_
      rintro e w1 ⟨rfl, h1, h2⟩
      have H1 := Lib.hid h1
      have H2 := Lib.hid h2
      have HMS : Hid ((strOf L.step.bytes).size = L.m) := HM.out
      obtain ⟨d0, d1, d2, d3, d4⟩ := five_ w1 B S b _ bd SD D st h1
      have f2 := h1.blk.frozen 2
      generalize strOf L.step.bytes = s at *
      have HF : Hid (LogSt (w1.setCell ⟨b, 2, none⟩ (.int .i64 (s.size : Int))) B S b L.sync bd SD D st) := by
        rw [HSY.out]
        show LogSt _ B S b _ bd SD D st
        refine LogSt.set (L' := { L.step with safe := L.m }) H1.out ((Only.refl [b] w1).setCell (.inl (by simp)) _) ?_
        rw [HMS.out]
        exact H1.out.blk.set_ 2 (.int .i64 (L.m : Nat))
      clear h1 h2
      go_wp2_with fail
      go_ret
      exact ⟨rfl, HF.out, H2.out.setCell (.inl (by simp)) _⟩
end
end Go.Proofs.YthfbjfocmnikaaaGreatDoor
/- log.redo, walked: the ops that are whole are done again. Conditions: none of our own. -/
namespace Go.Proofs.YthfbjfocmnikaaaGreatDoor
open Go.RowKit
set_option linter.unusedVariables false
def RedoPost (w : World) (l : List UInt8) (e : Ending) (w' : World) : Prop :=
  ∃ b S D, e = .returned (.tuple #[.pointer (some ⟨b, 0, none⟩), .int .i64 ((packBody (redoL LDoc.new l)).length : Nat)]) ∧ DocIs w' w.heap.size S b (LDoc.new.all (redoL LDoc.new l)) D ∧ Below w.heap.size w w'
/-- Midway: so many ops are done. -/
structure RdMid (w : World) (l : List UInt8) (b : Nat) (done : List LOp) (rest : List UInt8) (wr : World) : Prop where
  eq : l = packBody done ++ rest
  red : redoL LDoc.new l = done ++ redoL (LDoc.new.all done) rest
  few : ∀ o ∈ done, opErr o = 0
  doc : ∃ S D, DocIs wr w.heap.size S b (LDoc.new.all done) D
  bel : Below w.heap.size w wr
def RdLoop (w : World) (l : List UInt8) (b : Nat) (v : Value) (wr : World) : Prop := ∃ done rest, v = .int .i64 ((packBody done).length : Nat) ∧ Hid (RdMid w l b done rest wr)
theorem RdMid.out {w wr : World} {l : List UInt8} {b : Nat} {done : List LOp} {rest : List UInt8} (h : RdMid w l b done rest wr) {w' : World} (hb : Below wr.heap.size wr w') (hz : redoL (LDoc.new.all done) rest = []) : RedoPost w l (.returned (.tuple #[.pointer (some ⟨b, 0, none⟩), .int .i64 ((packBody done).length : Nat)])) w' := by
  obtain ⟨S, D, hd⟩ := h.doc
  have e : redoL LDoc.new l = done := by rw [h.red, hz, List.append_nil]
  exact ⟨b, S, D, by rw [e], by rw [e]; exact hd.below hb, h.bel.trans (hb.mono h.bel.size)⟩
theorem RdMid.below {w wr : World} {l : List UInt8} {b : Nat} {done : List LOp} {rest : List UInt8} (h : RdMid w l b done rest wr) {w' : World} (hb : Below wr.heap.size wr w') : RdMid w l b done rest w' := by
  obtain ⟨S, D, hd⟩ := h.doc
  exact ⟨h.eq, h.red, h.few, ⟨S, D, hd.below hb⟩, h.bel.trans (hb.mono h.bel.size)⟩
theorem lstr_get (l : List UInt8) (i : Nat) (h : i < (strOf l).size) : ∃ h2 : i < l.length, (strOf l)[i] = l[i] := ⟨by rw [strOf_sz] at h; exact h, rfl⟩
set_option maxRecDepth 100000 in
set_option maxHeartbeats 8000000 in
theorem redo_any (w : World) (l : List UInt8) (hl : l.length ≤ 1000000) : Calls Tryz.prog 65 #[.string (strOf l)] w (RedoPost w l) := by
  have HN := Lib.hid (new_doc w)
  have HDP := Lib.hid (fun W t => decode_any W t)
  obtain ⟨s, hs⟩ : ∃ s, s = strOf l := ⟨_, rfl⟩
  have hsz : s.size = l.length := by rw [hs]; exact strOf_sz l
  have HGE : Hid (∀ i (h : i < s.size), l[i]? = some s[i]) := by
    show ∀ i (h : i < s.size), _
    subst hs
    intro i h
    obtain ⟨h2, h3⟩ := lstr_get l i h
    rw [List.getElem?_eq_getElem h2]
    exact congrArg some h3.symm
  have HEX : Hid (∀ i j, s.extract i j = strOf ((l.take j).drop i)) := by show ∀ i j, _ = _; intro i j; rw [hs, strOf_ext]
  rw [← hs]
  have HSZ := Lib.hid hsz
  have hm : s.size ≤ 1000000 := by omega
  clear hs hsz
  go_enter Tryz.func65, Tryz.ntmps65
  go_wp2_with fail
  refine HN.out.mono ?_
  rintro e w1 ⟨b, S, D, rfl, hd, hb1⟩
  have HD1 := Lib.hid hd
  have HB1 := Lib.hid hb1
  clear hd hb1 HN
  go_wp2_with fail
  go_loopw [5] (fun v wr => RdLoop w l b v wr) (fun v _ => l.length + 1 - (intOf v).toNat)
  case atStart => exact ⟨[], l, rfl, Lib.hid ⟨by simp [packBody], rfl, by simp, ⟨S, D, HD1.out⟩, HB1.out⟩⟩
  case round =>
    obtain ⟨done, rest, rfl, HM⟩ := hrel
    clear HD1 HB1
    obtain ⟨a, ha⟩ : ∃ a, a = (packBody done).length := ⟨_, rfl⟩
    have hal : a + rest.length = s.size := by rw [HSZ.out, HM.out.eq, List.length_append, ha]
    have HA := Lib.hid ha
    rw [← ha]
    clear ha
    by_cases h2 : rest.length < 2
    · have z1 : ¬ (a : Int) + 2 ≤ (s.size : Int) := by omega
      have HR := Lib.hid (redoL_short (LDoc.new.all done) rest h2)
      have a9 : (a : Int) ≤ 1000000 := by omega
      clear h2 hal
      go_wp2_with fail
      go_ret2
      have := HM.out.out (Below.refl _ _) HR.out
      rw [← HA.out] at this
      exact this
    · obtain ⟨c, e, t, hr⟩ : ∃ c e t, rest = c :: e :: t := by
        match rest, h2 with
        | [], h => simp at h
        | [_], h => simp at h
        | c :: e :: t, _ => exact ⟨c, e, t, rfl⟩
      subst hr
      simp only [List.length_cons] at hal
      have z1 : (a : Int) + 2 ≤ (s.size : Int) := by omega
      have b0 : a < s.size := by omega
      have b1 : a + 1 < s.size := by omega
      have dr : ∀ i (h : i < (c :: e :: t).length), l[a + i]? = some ((c :: e :: t)[i]) := fun i h => by
        rw [HM.out.eq, HA.out, List.getElem?_append_right (by omega), Nat.add_sub_cancel_left, List.getElem?_eq_getElem h]
      have e0 : s[a]'b0 = c := by
        have h1 := HGE.out a b0
        have h3 := dr 0 (by simp)
        rw [Nat.add_zero, h1] at h3
        exact Option.some.inj h3
      have e1 : s[a + 1]'b1 = e := by
        have h1 := HGE.out (a + 1) b1
        have h3 := dr 1 (by simp)
        rw [h1] at h3
        exact Option.some.inj h3
      obtain ⟨n, hn⟩ : ∃ n, n = c.toNat * 256 + e.toNat := ⟨_, rfl⟩
      have hc8 := UInt8.toNat_lt c
      have he8 := UInt8.toNat_lt e
      have hn9 : n ≤ 65535 := by omega
      have a0 : (0 : Int) ≤ (a : Int) := by omega
      have a1 : (a : Int) < (s.size : Int) := by omega
      have a2 : (a : Int) + 1 < (s.size : Int) := by omega
      have a3 : ((a : Int) + 1).toNat = a + 1 := by omega
      have a4 : (a : Int).toNat = a := by omega
      have a5 : IntKind.i64.wrap ((a : Int) + 1) = (a : Int) + 1 := IntWalk.i64_in _ (by omega)
      have a6 : IntKind.i64.wrap ((a : Int) + 2) = (a : Int) + 2 := IntWalk.i64_in _ (by omega)
      have a9 : (a : Int) ≤ 1000000 := by omega
      go_upto_region 4 with (fail)
      go_quiet (fail)
      go_upto_region 5 with (fail)
      obtain ⟨q, hq⟩ : ∃ q, q = a + 2 + n := ⟨_, rfl⟩
      have hqi : (a : Int) + 2 + (c.toNat : Int) * 256 + (e.toNat : Int) = (q : Int) := by omega
      rw [hqi]
      clear hqi
      have HM2 := Lib.hid (HM.out.below (below_drewN (Below.refl _ _) nq))
      generalize wr.drewN nq = w2 at *
      have HQ := Lib.hid hq
      have HNN := Lib.hid hn
      have hst := redoL_step (LDoc.new.all done) c e t
      rw [← hn] at hst
      by_cases ht : t.length < n
      · have z5 : (q : Int) > (s.size : Int) := by omega
        have z6 : (s.size : Int) < (q : Int) := by omega
        have HR : Hid (redoL (LDoc.new.all done) (c :: e :: t) = []) := by show _ = _; rw [hst, if_pos ht]
        clear ht hst hn hq dr hal
        go_wp2_with fail
        go_ret2
        have := HM2.out.out (Below.refl _ _) HR.out
        rw [← HA.out] at this
        exact this
      · have z5 : ¬ (q : Int) > (s.size : Int) := by omega
        have z6 : ¬ (s.size : Int) < (q : Int) := by omega
        have z7 : (q : Int) ≤ (s.size : Int) := by omega
        have z8 : (a : Int) + 2 ≤ (q : Int) := by omega
        have z9 : ((a : Int) + 2).toNat = a + 2 := by omega
        have HX : Hid (s.extract (a + 2) q = strOf (t.take n)) := by
          show _ = _
          have hdd : (c :: e :: t) = l.drop a := by rw [HM.out.eq, HA.out, List.drop_left]
          rw [HEX.out, List.drop_take, hq, show a + 2 + n - (a + 2) = n by omega, ← List.drop_drop, ← hdd]
          rfl
        rw [if_neg ht] at hst
        obtain ⟨R, hR⟩ : ∃ R, R = decOf (strOf (t.take n)) := ⟨_, rfl⟩
        have HDC := Lib.hid (HDP.out · (t.take n))
        rw [← hR] at HDC hst
        have HRD := Lib.hid hR
        have HST := Lib.hid hst
        have HTN : Hid (n ≤ t.length) := by show n ≤ _; omega
        clear ht hst hn hq dr hal hR
        go_wp2_with fail
        rw [HX.out]
        refine (HDC.out w2).mono ?_
        cases hR : R with
        | none =>
          rw [hR] at HST
          rintro en w3 ⟨rfl, hb3⟩
          have HB3 := Lib.hid hb3
          clear hb3
          rw [show errV 2 = .iface 119 (.int .i64 2) by rw [errV, if_neg (by decide)]]
          unfold zeroOp
          go_wp2_with fail
          go_ret2
          have := HM2.out.out (HB3.out.alloc HB3.out.size (.cells #[.int .i64 0, .int .i64 0, .int .i64 0, .string ⟨#[]⟩, .int .i64 0, .slice none 0 0] 30)) HST.out
          rw [← HA.out] at this
          exact this
        | some o =>
          rw [hR] at HST
          rintro en w3 ⟨A, cA, rfl, hown, hb3⟩
          obtain ⟨ho1, ho2⟩ := dec_some (HRD.out.symm.trans hR)
          have hpl := placeErr_len (opOk_of ho1).place
          have HM3 := Lib.hid (HM2.out.below hb3)
          have hlt3 : Hid (∀ g ∈ ob A, w2.heap.size ≤ g) := fun g hg => (hown.lt g hg).1
          obtain ⟨S2, D2, hd2⟩ := HM2.out.doc
          have hd3 := hd2.below hb3
          obtain ⟨W4, hW4⟩ : ∃ W4, W4 = w3.alloc (.cells (o.cells A cA) 30) := ⟨_, rfl⟩
          have HM4 : Hid (RdMid w l b done (c :: e :: t) W4) := by rw [hW4]; exact HM3.out.below ((Below.refl _ _).alloc (Nat.le_refl _) _)
          have hd4 : DocIs W4 w.heap.size S2 b (LDoc.new.all done) D2 := by rw [hW4]; exact hd3.below ((Below.refl _ _).alloc (Nat.le_refl _) _)
          have hr4 : Reads W4 W4.heap.size 2 A o.seen.length (dcells o.seen) := by rw [hW4]; exact (hown.alloc _).reads
          have HBX : Hid (Blk W4 w3.heap.size 30 (o.cells A cA)) := by rw [hW4]; exact Blk.new w3 _ _
          have HAP := Lib.hid (apply_doc W4 w.heap.size S2 b _ D2 hd4 (LDoc.all_ok _ LDoc.new_ok) o A cA (by omega) hr4 (fun _ g hg hm => by
            have h1 := hlt3.out g hg
            have h2 := (hd2.own g hm).2
            omega))
          have b0 := HBX.out.cell 0
          have b1 := HBX.out.cell 1
          have b2 := HBX.out.cell 2
          have b3 := HBX.out.cell 3
          have b4 := HBX.out.cell 4
          have b5 := HBX.out.cell 5
          have HO1 := Lib.hid ho1
          have HO2 := Lib.hid ho2
          obtain ⟨g3, hg3⟩ : ∃ g3, g3 = w3.heap.size := ⟨_, rfl⟩
          rw [← hg3] at b0 b1 b2 b3 b4 b5
          have HOWN : Hid (∀ g ∈ S2, w.heap.size ≤ g) := fun g hg => (hd2.own g hg).1
          obtain ⟨ke, hke⟩ : ∃ ke, ke = (LDoc.new.all done).applyE o := ⟨_, rfl⟩
          obtain ⟨kb, hkb⟩ : ∃ kb, kb = (LDoc.new.all done).applyB o := ⟨_, rfl⟩
          have HKE := Lib.hid hke
          rw [← hke, ← hkb] at HAP
          clear hb3 hown hd2 hd3 hd4 hr4 ho1 ho2 hpl hR HM3 HBX HDC hke hkb
          unfold LOp.val at HAP ⊢
          unfold LOp.cells at b0 b1 b2 b3 b4 b5 hW4
          simp only [List.getElem?_toArray, List.getElem?_cons_zero, List.getElem?_cons_succ] at b0 b1 b2 b3 b4 b5
          go_upto_region 7 with (fail)
          rw [← hW4, ← hg3]
          clear hW4 hg3
          go_wp2_with fail
          refine HAP.out.mono ?_
          rintro en w5 ⟨rfl, S5, D5, hd5, ho5, _⟩
          have HD5 := Lib.hid hd5
          have HO5 := Lib.hid ho5
          clear hd5 ho5 b0 b1 b2 b3 b4 b5 HAP
          by_cases hz : ke = 0
          · rw [show errV ke = .nilIface by rw [hz]; rfl]
            have hz' : (LDoc.new.all done).applyE o = 0 := HKE.out.symm.trans hz
            have HZ := Lib.hid hz'
            clear hz hz'
            go_wp2_with fail
            go_roundw
            case rel =>
              have hlo : logOp o = c :: e :: t.take n := by
                have h1 : opBytes o = t.take n := HO2.out
                unfold logOp
                rw [h1, List.length_take, Nat.min_eq_left HTN.out, HNN.out, twoB_of]
                rfl
              have hpb : packBody (done ++ [o]) = packBody done ++ (c :: e :: t.take n) := by rw [packBody_app, packBody_one, hlo]
              have hll : (packBody (done ++ [o])).length = q := by
                rw [hpb, List.length_append, List.length_cons, List.length_cons, List.length_take, Nat.min_eq_left HTN.out, ← HA.out, HQ.out]
                omega
              refine ⟨done ++ [o], t.drop n, by rw [hll], Lib.hid ⟨?_, ?_, ?_, ?_, ?_⟩⟩
              · rw [hpb, HM4.out.eq, List.append_assoc]
                congr 1
                show c :: e :: t = c :: e :: (t.take n ++ t.drop n)
                rw [List.take_append_drop]
              · rw [HM4.out.red, HST.out, LDoc.all_app]
                rw [if_neg (by rw [HZ.out]; simp), List.append_assoc]
                rfl
              · intro x hx
                rcases List.mem_append.1 hx with hx | hx
                · exact HM4.out.few x hx
                · simp at hx; subst hx; exact HO1.out
              · rw [LDoc.all_app]
                exact ⟨S5, D5, HD5.out⟩
              · exact HM4.out.bel.trans (HO5.out.below HM4.out.bel.size HOWN.out)
            case measure =>
              simp only [intOf]
              have := HQ.out
              have := HSZ.out
              omega
          · have HZ : Hid (redoL (LDoc.new.all done) (c :: e :: t) = []) := by
              show _ = _
              rw [HST.out]
              rw [if_pos (fun h => hz (HKE.out.trans h))]
            have hsame : (LDoc.new.all done).apply o = LDoc.new.all done := by
              rcases LDoc.apply_three (d := LDoc.new.all done) o with ⟨_, h1, _⟩ | ⟨_, h1, _⟩ | ⟨_, _, h1⟩
              · exact absurd (HKE.out.trans h1) hz
              · exact absurd (HKE.out.trans h1) hz
              · exact h1
            rw [hsame] at HD5
            have HFIN : Hid (RdMid w l b done (c :: e :: t) w5) := ⟨HM4.out.eq, HM4.out.red, HM4.out.few, ⟨S5, D5, HD5.out⟩, HM4.out.bel.trans (HO5.out.below HM4.out.bel.size HOWN.out)⟩
            rw [show errV ke = .iface 119 (.int .i64 ke) by rw [errV, if_neg hz]]
            clear hz hsame
            go_wp2_with fail
            go_ret2
            have := HFIN.out.out (Below.refl _ _) HZ.out
            rw [← HA.out] at this
            exact this
end Go.Proofs.YthfbjfocmnikaaaGreatDoor
/- (*log.Log).Put, walked. Conditions: the log is right; the op can be read, and lies apart from it. -/
namespace Go.Proofs.YthfbjfocmnikaaaGreatDoor
open Go.RowKit
set_option linter.unusedVariables false
def LPutPost (w : World) (B : Nat) (S : List Nat) (b : Nat) (is : Bool) (k : Int) (L : LLog) (e : Ending) (w' : World) : Prop := e = .returned (.tuple #[.bool is, errV k]) ∧ LogTo w B S b L w'
theorem docTo_of_drewN {w w' : World} {n : Nat} {B : Nat} {S : List Nat} {b : Nat} {st : LDoc} (h : DocTo (w.drewN n) B S b st w') : DocTo w B S b st w' := by
  obtain ⟨S', D', h1, h2, h3⟩ := h
  exact ⟨S', D', h1, ⟨h2.os, h2.tape, h2.output, h2.size, h2.block⟩, h3⟩
section
variable (w : World) (B : Nat) (S : List Nat) (b : Nat) (L : LLog) (bd : Nat) (SD : List Nat) (D : DLay) (h : LogIs w B S b L bd SD D) (ok : L.Ok) (o : LOp) (A : Option Addr) (c : Nat) (hp : o.place.size ≤ 9223372036854775807)
include h ok hp
set_option maxRecDepth 100000 in
set_option maxHeartbeats 8000000 in
theorem lput_any (hr : Reads w w.heap.size 2 A o.seen.length (dcells o.seen)) (hns : 0 < o.seen.length → ∀ g ∈ ob A, g ∉ S) :
    Calls Tryz.prog 10 #[.pointer (some ⟨b, 0, none⟩), o.val A c] w (LPutPost w B S b (L.putB o) (L.putE o) (L.put o)) := by
  obtain ⟨W0, hW0⟩ : ∃ W0, W0 = w.alloc (.cells (o.cells A c) 30) := ⟨_, rfl⟩
  have HBEL : Hid (Below w.heap.size w W0) := by rw [hW0]; exact (Below.refl _ _).alloc (Nat.le_refl _) _
  have HL0 : Hid (LogSt W0 B S b L bd SD D L.doc) := by rw [hW0]; exact h.below ((Below.refl _ _).alloc (Nat.le_refl _) _)
  have HX0 : Hid (Blk W0 w.heap.size 30 (o.cells A c)) := by rw [hW0]; exact Blk.new w _ _
  have HH := Lib.hid h
  have hbb := h.base
  obtain ⟨c0, c1, c2, c3, c4⟩ := five_ W0 B S b L bd SD D L.doc HL0.out
  cases hst : L.stopped with
  | true =>
    have e1 : L.put o = L := by unfold LLog.put; rw [if_pos hst]
    have e2 : L.putE o = 6 := by unfold LLog.putE; rw [if_pos hst]
    have e3 : L.putB o = false := by unfold LLog.putB; rw [hst]; rfl
    rw [hst] at c4
    rw [e1, e2, e3]
    clear e1 e2 e3 hst h ok hp hr hns
    unfold LOp.val
    unfold LOp.cells at hW0
    go_enter Tryz.func10, Tryz.ntmps10
    go_upto_region 1 with (fail)
    rw [← hW0]
    clear hW0
    go_wp2_with fail
    go_ret2
    refine ⟨rfl, S, bd, SD, D, HL0.out, Only.of_below HBEL.out, fun g hg => .inl hg⟩
  | false =>
    rw [hst] at c4
    have HSTP := Lib.hid hst
    have HDK := ok.doc_ok
    have HR0 : Reads W0 W0.heap.size 2 A o.seen.length (dcells o.seen) := by rw [hW0]; exact (hr.below ((Below.refl _ _).alloc (Nat.le_refl _) _)).more (by simp)
    have HNS : 0 < o.seen.length → ∀ g ∈ ob A, g ∉ SD := fun hn g hg hm => hns hn g hg (h.sub g hm)
    have HAP := Lib.hid (fun n => apply_doc (W0.drewN n) B SD bd L.doc D (HL0.out.drewN n).doc HDK o A c hp (HR0.drewN n) HNS)
    obtain ⟨kb, hkb⟩ : ∃ kb, kb = L.doc.applyB o := ⟨_, rfl⟩
    obtain ⟨ke, hke⟩ : ∃ ke, ke = L.doc.applyE o := ⟨_, rfl⟩
    rw [← hkb, ← hke] at HAP
    have HKB := Lib.hid hkb
    have HKE := Lib.hid hke
    have HOKL := Lib.hid ok
    have b0 := HX0.out.cell 0
    have b1 := HX0.out.cell 1
    have b2 := HX0.out.cell 2
    have b3 := HX0.out.cell 3
    have b4 := HX0.out.cell 4
    have b5 := HX0.out.cell 5
    have HRS := Lib.hid hr
    have HNS2 := Lib.hid hns
    have HP := Lib.hid hp
    have HXL : Hid (∀ w2, Only SD W0 w2 → Blk w2 w.heap.size 30 (o.cells A c) ∧ w2.cell? ⟨b, 0, none⟩ = some (.pointer (some ⟨bd, 0, none⟩))) := fun w2 ho => by
      have h1 := ho.blk HX0.out (fun hm => by have := (h.doc.own _ hm).2; omega)
      have h2 := ho.blk HL0.out.blk HL0.out.apart
      exact ⟨h1, by rw [h2.cell]; rfl⟩
    clear hst h ok hp hr hns hkb hke HR0 HNS HDK
    unfold LOp.val at *
    unfold LOp.cells at hW0 b0 b1 b2 b3 b4 b5
    simp only [List.getElem?_toArray, List.getElem?_cons_zero, List.getElem?_cons_succ] at b0 b1 b2 b3 b4 b5
    go_enter Tryz.func10, Tryz.ntmps10
    go_upto_region 1 with (fail)
    rw [← hW0]
    clear hW0
    go_upto_region 3 with (fail)
    go_cut [6, 7] (fun v k wx => v = .bool kb ∧ k = errV ke ∧ ∃ S' SD' D', Hid (LogSt wx B S' b L bd SD' D' (L.doc.apply o)) ∧ Hid (Only S W0 wx) ∧ Hid (∀ g ∈ S', g ∈ S ∨ w.heap.size ≤ g) ∧ Hid (Blk wx w.heap.size 30 (o.cells A c)))
    case first =>
      go_region_held3 (fun w' => w'.cell? ⟨b, 0, none⟩ = some (.pointer (some ⟨bd, 0, none⟩)) ∧ w'.cell? ⟨w.heap.size, 0, none⟩ = some (.int .i64 o.dot.who) ∧ w'.cell? ⟨w.heap.size, 1, none⟩ = some (.int .i64 o.dot.n) ∧ w'.cell? ⟨w.heap.size, 2, none⟩ = some (.int .i64 o.what) ∧ w'.cell? ⟨w.heap.size, 3, none⟩ = some (.string o.place) ∧ w'.cell? ⟨w.heap.size, 4, none⟩ = some (.int .i64 o.letter) ∧ w'.cell? ⟨w.heap.size, 5, none⟩ = some (.slice A o.seen.length c))
        (first | go_keep | (refine ⟨?_, ?_, ?_, ?_, ?_, ?_, ?_⟩ <;> assumption))
        ((go_at_call 36; refine (HAP.out 1).mono ?_; rintro en w2 ⟨rfl, hdt⟩
          have hdt' := docTo_of_drewN hdt
          obtain ⟨S2, SD2, D2, h1, h2, h3, h4⟩ := HL0.out.turn hdt'
          have H1 := Lib.hid h1
          have H2 := Lib.hid h2
          have H3 := Lib.hid h3
          have H4 := Lib.hid (HXL.out w2 h4)
          have x0 := H4.out.2
          have y0 : w2.cell? ⟨w.heap.size, 0, none⟩ = some (.int .i64 o.dot.who) := by rw [H4.out.1.cell]; rfl
          have y1 : w2.cell? ⟨w.heap.size, 1, none⟩ = some (.int .i64 o.dot.n) := by rw [H4.out.1.cell]; rfl
          have y2 : w2.cell? ⟨w.heap.size, 2, none⟩ = some (.int .i64 o.what) := by rw [H4.out.1.cell]; rfl
          have y3 : w2.cell? ⟨w.heap.size, 3, none⟩ = some (.string o.place) := by rw [H4.out.1.cell]; rfl
          have y4 : w2.cell? ⟨w.heap.size, 4, none⟩ = some (.int .i64 o.letter) := by rw [H4.out.1.cell]; rfl
          have y5 : w2.cell? ⟨w.heap.size, 5, none⟩ = some (.slice A o.seen.length c) := by rw [H4.out.1.cell]; rfl
          clear hdt hdt' h1 h2 h3 h4))
      go_wp2_with fail
      go_meet
      case rel =>
        refine ⟨rfl, rfl, S2, SD2, D2, H1, H2, fun g hg => ?_, Lib.hid H4.out.1⟩
        rcases H3.out g hg with h5 | h5
        · exact .inl h5
        · exact .inr (Nat.le_trans HBEL.out.size h5)
    case rest =>
      obtain ⟨rfl, rfl, S2, SD2, D2, H1, H2, H3, H4⟩ := hcut
      clear HXL HAP c0 c1 c2 c3 c4 b0 b1 b2 b3 b4 b5 HX0 HL0
      have HO2 : Hid (Only S w wc) := (Only.of_below HBEL.out).trans H2.out
      by_cases hkz : ke = 0
      · rw [show errV ke = .nilIface by rw [hkz]; rfl]
        cases kb with
        | false =>
          have hsame : L.doc.apply o = L.doc := by unfold LDoc.apply; rw [← HKB.out]; rfl
          have e1 : L.put o = L := by unfold LLog.put; rw [if_neg (by rw [HSTP.out]; decide), if_pos HKB.out.symm]
          have e2 : L.putE o = 0 := by unfold LLog.putE; rw [if_neg (by rw [HSTP.out]; decide), if_neg (by rw [← HKE.out]; simp [hkz]), if_pos HKB.out.symm]
          have e3 : L.putB o = false := by unfold LLog.putB; rw [← HKB.out]; simp
          rw [hsame] at H1
          have HE : Hid (L.put o = L ∧ L.putE o = 0 ∧ L.putB o = false) := ⟨e1, e2, e3⟩
          clear hsame e1 e2 e3 hkz
          go_wp2_with fail
          go_ret2
          rw [HE.out.1, HE.out.2.1, HE.out.2.2]
          exact ⟨rfl, S2, bd, SD2, D2, H1.out, HO2.out, H3.out⟩
        | true =>
          have hkb := HKB.out.symm
          have HPG := Lib.hid (fun hl => LLog.put_go HOKL.out HSTP.out hkb hl)
          have HPS := Lib.hid (fun hl => LLog.put_stop HOKL.out HSTP.out hkb hl)
          have hoe : opErr o = 0 := Goes.errs (d := L.doc) (l := [o]) ⟨hkb, trivial⟩ o (by simp)
          have hobl := opBytes_len hoe
          have HEN := Lib.hid (encode_any wc A c o (Reads.only HRS.out HO2.out HNS2.out) HP.out)
          unfold EncPost at HEN
          rw [hoe, show encRes o = strOf (opBytes o) by rw [encRes, if_pos hoe], show errV 0 = .nilIface from rfl] at HEN
          obtain ⟨n, hn⟩ : ∃ n, n = (opBytes o).length := ⟨_, rfl⟩
          obtain ⟨ob, hob⟩ : ∃ ob, ob = strOf (opBytes o) := ⟨_, rfl⟩
          have hobz : ob.size = n := by rw [hob, strOf_sz, hn]
          rw [← hob] at HEN
          have HOBZ := Lib.hid hobz
          have hcat : strOf (twoB n) ++ ob = strOf (logOp o) := by
            rw [hob, hn]
            apply ByteArray.ext
            rw [ByteArray.data_append]
            apply Array.ext'
            simp [strOf, logOp]
          have HCAT := Lib.hid hcat
          have b0 := H4.out.cell 0
          have b1 := H4.out.cell 1
          have b2 := H4.out.cell 2
          have b3 := H4.out.cell 3
          have b4 := H4.out.cell 4
          have b5 := H4.out.cell 5
          unfold LOp.cells at b0 b1 b2 b3 b4 b5
          unfold LOp.val at HEN
          simp only [List.getElem?_toArray, List.getElem?_cons_zero, List.getElem?_cons_succ] at b0 b1 b2 b3 b4 b5
          have hn9 : n ≤ 139 := by omega
          have HLN : Hid ((logOp o).length = 2 + n) := by show _ = _; rw [logOp_len, ← hn]
          clear hkb hoe hobl hn hob hobz hcat hkz HRS HNS2 HP
          go_wp2_with fail
          refine HEN.out.mono ?_
          rintro en w3 ⟨rfl, hb3⟩
          have HL3 := Lib.hid (H1.out.below hb3)
          have HB3 := Lib.hid hb3
          clear hb3 b0 b1 b2 b3 b4 b5 HEN
          obtain ⟨ni, hni⟩ : ∃ ni : Int, ni = (ob.size : Int) := ⟨_, rfl⟩
          have n0 : 0 ≤ ni := by rw [hni]; omega
          have n1 : ni ≤ 139 := by rw [hni, HOBZ.out]; omega
          have hnn : ni = (n : Int) := by rw [hni, HOBZ.out]
          have a0 : (0 : Int) ≤ ni / 256 := by omega
          have a1 : ni / 256 ≤ 255 := by omega
          have a3 : ni % 256 = ni := by omega
          have hfr := Own.fresh w3 0 (Nat.zero_le _) (twoB n) (by simp [twoB]) #[.int .u8 (ni / 256), .int .u8 ni] (by
            have e1 := u8_val a0 a1
            have e2 := u8_val n0 (show ni ≤ 255 by omega)
            simp [bs, twoB, ← hnn, a3, e1, e2])
          have hcv := conv_own hfr
          have hl2 : (twoB n).length = 2 := rfl
          rw [hl2] at hcv
          obtain ⟨pre, hpre⟩ : ∃ pre, pre = strOf (twoB n) := ⟨_, rfl⟩
          rw [← hpre] at hcv
          have hpz : pre.size = 2 := by rw [hpre, strOf_sz, hl2]
          have hobz2 := HOBZ.out
          have hsum : ¬ 9223372036854775807 < pre.size + ob.size := by omega
          have hsum2 : pre.size + ob.size ≤ 9223372036854775807 := by omega
          have HCAT2 : Hid (pre ++ ob = strOf (logOp o)) := by show _ = _; rw [hpre]; exact HCAT.out
          clear hpz hpre hobz2
          obtain ⟨W4, hW4⟩ : ∃ W4, W4 = w3.alloc (.cells #[.int .u8 (ni / 256), .int .u8 ni] 5) := ⟨_, rfl⟩
          clear hfr hl2 hnn a3
          subst hni
          have HL4 : Hid (LogSt W4 B S2 b L bd SD2 D2 (L.doc.apply o)) := by rw [hW4]; exact HL3.out.below ((Below.refl _ _).alloc (Nat.le_refl _) _)
          have HO4 : Hid (Only S w W4) := by rw [hW4]; exact (HO2.out.below_step HB3.out).alloc _
          go_upto_region 10 with (fail)
          rw [← hW4, HCAT2.out]
          clear hW4 hcv n0 n1 a0 a1 hsum hsum2
          clear HL3 HB3 HO2 H1 H2 H4 HCAT HCAT2
          obtain ⟨sl, hsl⟩ : ∃ sl, sl = strOf (logOp o) := ⟨_, rfl⟩
          have hslz : sl.size = 2 + n := by rw [hsl, strOf_sz, HLN.out]
          rw [← hsl]
          have HSL := Lib.hid hsl
          clear hsl
          have HSP := Lib.hid (lstep_any W4 B S2 b L bd SD2 D2 _ HL4.out HOKL.out)
          go_wp2_with fail
          refine HSP.out.mono ?_
          rintro en w5 ⟨rfl, h1, h2⟩
          have HO5 : Hid (Only S w w5) := HO4.out.trans_new h2 (fun i hi => by simp at hi; subst hi; exact .inl HH.out.subb)
          have HL5 := Lib.hid h1
          clear h1 h2 HSP HL4 HO4
          obtain ⟨c0, c1', c2, c3, c4⟩ := five_ w5 B S2 b L.step bd SD2 D2 _ HL5.out
          have hbz : (strOf L.bytes).size ≤ 56400 := by rw [strOf_sz, HOKL.out.bytes_len]; exact HOKL.out.m_small
          have c1 : w5.cell? ⟨b, 1, none⟩ = some (.string (strOf L.bytes)) := c1'
          clear c1'
          obtain ⟨bsx, hbs⟩ : ∃ bsx, bsx = strOf L.bytes := ⟨_, rfl⟩
          rw [← hbs] at c1 hbz
          have HBS := Lib.hid hbs
          have hsum : ¬ 9223372036854775807 < bsx.size + sl.size := by omega
          have hsum2 : bsx.size + sl.size ≤ 9223372036854775807 := by omega
          have h141 : sl.size ≤ 141 := by omega
          clear hslz
          by_cases hl : L.left = 0
          · obtain ⟨q1, q2, q3, q4, q5⟩ := HPS.out hl
            rw [decide_eq_true hl]
            have HQ4 := Lib.hid q4
            have HQ5 := Lib.hid q5
            have HRE := Lib.hid (redo_any w5 L.bytes (by rw [HOKL.out.bytes_len]; have := HOKL.out.m_small; omega))
            rw [← hbs] at HRE
            have HQ2 := Lib.hid q2
            have HQ1 := Lib.hid q1
            have HLZ := Lib.hid hl
            have HQ3 := Lib.hid q3
            clear hl hbs q1 q2 q3 q4 q5 HPG HPS
            go_wp2_with fail
            refine HRE.out.mono ?_
            rintro en w6 ⟨bn, Sn, Dn, rfl, hdn, hb6⟩
            have HDN := Lib.hid hdn
            have HB6 := Lib.hid hb6
            have HBK := Lib.hid (HL5.out.blk.below hb6 HL5.out.base.2)
            have x0 : w6.cell? ⟨b, 0, none⟩ = some (.pointer (some ⟨bd, 0, none⟩)) := by rw [HBK.out.cell]; rfl
            have f0 := HBK.out.frozen 0
            have x1 : (w6.setCell ⟨b, 0, none⟩ (.pointer (some ⟨bn, 0, none⟩))).cell? ⟨b, 1, none⟩ = some (.string bsx) := by
              have := (HBK.out.set_ 0 (.pointer (some ⟨bn, 0, none⟩))).cell 1
              rw [this, HBS.out]; rfl
            have f1 := (HBK.out.set_ 0 (.pointer (some ⟨bn, 0, none⟩))).frozen 1
            obtain ⟨W7, hW7⟩ : ∃ W7, W7 = w6.setCell ⟨b, 0, none⟩ (.pointer (some ⟨bn, 0, none⟩)) := ⟨_, rfl⟩
            rw [← hW7] at x1 f1
            have HBK7 : Hid (Blk W7 b 118 ((L.step.cells bd).setIfInBounds 0 (.pointer (some ⟨bn, 0, none⟩)))) := by rw [hW7]; exact HBK.out.set_ 0 _
            have HO7 : Hid (Only [b] w6 W7) := by rw [hW7]; exact (Only.refl [b] w6).setCell (.inl (by simp)) _
            have hex : sl.extract 0 (sl.size / 2) = strOf ((logOp o).take ((logOp o).length / 2)) := by
              rw [HSL.out, strOf_ext, strOf_sz]; rfl
            have HEX := Lib.hid hex
            clear hex
            have h20 : (0 : Int) ≤ (sl.size : Int) / 2 := by omega
            have h21 : (sl.size : Int) / 2 ≤ (sl.size : Int) := by omega
            have h22 : ((sl.size : Int) / 2).toNat = sl.size / 2 := by omega
            have h23 : (sl.size : Int) ≤ 141 := by omega
            clear hdn hb6 HRE c0 c1 c2 c3 c4
            go_upto_region 12 with (fail)
            rw [← hW7]
            clear hW7 x0 f0
            go_region
            have hcc : bsx ++ sl.extract 0 (sl.size / 2) = strOf (L.put o).bytes := by
              rw [HEX.out, HQ3.out, HBS.out]
              apply ByteArray.ext
              rw [ByteArray.data_append]
              apply Array.ext'
              simp [strOf]
            have HCC := Lib.hid hcc
            clear hcc h20 h21 h22 h23 x1 f1
            go_wp2_with fail
            go_ret2
            rw [HQ4.out, HQ5.out]
            have hblk : Blk ((W7.setCell ⟨b, 1, none⟩ (.string (bsx ++ sl.extract 0 (sl.size / 2)))).drew) b 118 ((L.put o).cells bn) := by
              have h3 := HBK7.out.set_ 1 (.string (bsx ++ sl.extract 0 (sl.size / 2)))
              rw [HCC.out] at h3 ⊢
              have e : ((L.step.cells bd).setIfInBounds 0 (.pointer (some ⟨bn, 0, none⟩))).setIfInBounds 1 (.string (strOf (L.put o).bytes)) = (L.put o).cells bn := by
                unfold LLog.cells
                rw [HQ1.out]
                unfold LLog.step LLog.down
                rw [HLZ.out]
                rfl
              rw [e] at h3
              exact h3
            have hbw : B ≤ w5.heap.size := by have := HL5.out.base; omega
            obtain ⟨k1, k2, k3⟩ := LogSt.lay (L' := L.put o) HL5.out hbw HB6.out HDN.out ((HO7.out.setCell (.inl (by simp)) _).drew) hblk
            refine ⟨rfl, b :: Sn, bn, Sn, Dn, ?_, ?_, ?_⟩
            · show LogSt _ B _ b _ bn Sn Dn (L.put o).doc
              rw [HQ2.out]
              exact k1
            · exact HO5.out.trans_new k2 (fun i hi => H3.out i hi)
            · intro g hg
              rcases k3 g hg with h5 | h5
              · exact H3.out g h5
              · exact .inr (Nat.le_trans HO5.out.size h5)
          · obtain ⟨q1, q2, q3, q4, q5⟩ := HPG.out hl
            rw [decide_eq_false hl]
            have HQ4 := Lib.hid q4
            have HQ5 := Lib.hid q5
            have f1 := HL5.out.blk.frozen 1
            have hdl : decide (L.left = 0) = false := decide_eq_false hl
            clear hl hbs
            have HF : Hid (LogIs (w5.setCell ⟨b, 1, none⟩ (.string (bsx ++ sl))) B S2 b (L.put o) bd SD2 D2) := by
              show LogSt _ B S2 b _ bd SD2 D2 (L.put o).doc
              rw [q2]
              refine LogSt.set (L' := L.put o) HL5.out ((Only.refl [b] w5).setCell (.inl (by simp)) _) ?_
              have h3 := HL5.out.blk.set_ 1 (.string (bsx ++ sl))
              have h4 : bsx ++ sl = strOf (L.put o).bytes := by
                rw [q3, HBS.out, HSL.out]
                apply ByteArray.ext
                rw [ByteArray.data_append]
                apply Array.ext'
                simp [strOf]
              rw [h4] at h3 ⊢
              have e : (L.step.cells bd).setIfInBounds 1 (.string (strOf (L.put o).bytes)) = (L.put o).cells bd := by
                unfold LLog.cells
                rw [q1]
                unfold LLog.step
                rw [hdl]
                rfl
              rw [e] at h3
              exact h3
            clear q1 q2 q3 q4 q5 HPG HPS hdl
            go_wp2_with fail
            go_ret2
            rw [HQ4.out, HQ5.out]
            exact ⟨rfl, S2, bd, SD2, D2, HF.out, HO5.out.setCell (.inl HH.out.subb) _, H3.out⟩
      · have hkb : kb = false := by
          rcases LDoc.apply_three (d := L.doc) o with ⟨_, h1, _⟩ | ⟨_, h1, _⟩ | ⟨_, h1, _⟩
          · exact absurd (HKE.out.trans h1) hkz
          · exact absurd (HKE.out.trans h1) hkz
          · exact HKB.out.trans h1
        have hsame : L.doc.apply o = L.doc := by unfold LDoc.apply; rw [← HKB.out, hkb]; rfl
        have e1 : L.put o = L := by unfold LLog.put; rw [if_neg (by rw [HSTP.out]; decide), if_pos (HKB.out.symm.trans hkb)]
        have e2 : L.putE o = ke := by unfold LLog.putE; rw [if_neg (by rw [HSTP.out]; decide), if_pos (by rw [← HKE.out]; exact hkz), HKE.out]
        have e3 : L.putB o = false := by unfold LLog.putB; rw [← HKB.out, hkb]; simp
        rw [hsame] at H1
        have HE : Hid (L.put o = L ∧ L.putE o = ke ∧ L.putB o = false) := ⟨e1, e2, e3⟩
        have HEV : Hid (errV ke = .iface 119 (.int .i64 ke)) := by show _ = _; rw [errV, if_neg hkz]
        rw [HEV.out]
        clear hsame e1 e2 e3 hkz hkb
        go_wp2_with fail
        go_ret2
        rw [HE.out.1, HE.out.2.1, HE.out.2.2]
        exact ⟨by rw [HEV.out]; rfl, S2, bd, SD2, D2, H1.out, HO2.out, H3.out⟩
end
end Go.Proofs.YthfbjfocmnikaaaGreatDoor
/- (*log.Log).Crash, walked. Conditions: the log is right. -/
namespace Go.Proofs.YthfbjfocmnikaaaGreatDoor
open Go.RowKit
set_option linter.unusedVariables false
section
variable (w : World) (B : Nat) (S : List Nat) (b : Nat) (L : LLog) (bd : Nat) (SD : List Nat) (D : DLay) (h : LogIs w B S b L bd SD D) (ok : L.Ok)
include h ok
set_option maxRecDepth 100000 in
set_option maxHeartbeats 8000000 in
theorem lcrash_any (keep : Int) (hk0 : -9223372036854775808 ≤ keep) (hk1 : keep ≤ 9223372036854775807) :
    Calls Tryz.prog 12 #[.pointer (some ⟨b, 0, none⟩), .int .i64 keep] w (fun e w' => e = .returned (.tuple #[]) ∧ LogTo w B S b (L.crash keep) w') := by
  obtain ⟨c0, c1, c2, c3, c4⟩ := five_ w B S b L bd SD D L.doc h
  have hbz : (strOf L.bytes).size = L.m := by rw [strOf_sz, ok.bytes_len]
  have hms := ok.m_small
  have hsf := ok.safe
  obtain ⟨s, hs⟩ : ∃ s, s = strOf L.bytes := ⟨_, rfl⟩
  rw [← hs] at c1 hbz
  obtain ⟨sf, hsfe⟩ : ∃ sf, sf = L.safe := ⟨_, rfl⟩
  rw [← hsfe] at c2 hsf
  obtain ⟨r, hr⟩ : ∃ r : Int, r = min keep ((s.size : Int) - (sf : Int)) := ⟨_, rfl⟩
  obtain ⟨q, hq⟩ : ∃ q : Int, q = max 0 r := ⟨_, rfl⟩
  have hmn : ∀ W, (Builtin.min_ #[3, 3] 3 #[.int .i64 keep, .int .i64 ((s.size : Int) - (sf : Int))]).run Tryz.prog W = .ok (.int .i64 r) W := fun W => by rw [run_min_int2, hr]; congr 2; split <;> omega
  have hmx : ∀ W, (Builtin.max_ #[3, 3] 3 #[.int .i64 0, .int .i64 r]).run Tryz.prog W = .ok (.int .i64 q) W := fun W => by rw [run_max_int2, hq]; congr 2; split <;> omega
  have hhigh : L.high keep = ((sf : Int) + q).toNat := by
    unfold LLog.high
    rw [← hsfe, hq, hr, hbz]
    omega
  have hhl := LLog.high_le ok keep
  obtain ⟨k, hk⟩ : ∃ k, k = L.high keep := ⟨_, rfl⟩
  have q0 : 0 ≤ q := by omega
  have q1 : (sf : Int) + q ≤ (s.size : Int) := by omega
  have q2 : ((sf : Int) + q).toNat = k := by rw [hk, hhigh]
  have q3 : (0 : Int) ≤ (sf : Int) + q := by omega
  have q4 : (s.size : Int) ≤ 56400 := by omega
  have q5 : (sf : Int) ≤ (s.size : Int) := by omega
  have q6 : (0 : Int) ≤ (sf : Int) := by omega
  have hex : s.extract 0 k = strOf (L.bytes.take k) := by rw [hs, strOf_ext]; rfl
  have HEX := Lib.hid hex
  have hred := ok.redo (k := k) (by rw [hk]; exact hhl)
  have HRED := Lib.hid hred
  have HK := Lib.hid hk
  have HI := Lib.hid h
  have HOK := Lib.hid ok
  have HRE := Lib.hid (fun W => redo_any W (L.bytes.take k) (by rw [List.length_take, ok.bytes_len]; omega))
  unfold RedoPost at HRE
  rw [hred] at HRE
  clear hs hsfe hr hq hhigh hhl hk hex hred h ok hbz hms hsf
  go_enter Tryz.func12, Tryz.ntmps12
  go_wp2_with fail
  go_region
  rw [HEX.out]
  obtain ⟨t, ht⟩ : ∃ t, t = strOf (L.bytes.take k) := ⟨_, rfl⟩
  have hwm := whole_min L.all k
  obtain ⟨al, hal⟩ : ∃ al, al = L.all.take (whole L.all k) := ⟨_, rfl⟩
  obtain ⟨n, hn⟩ : ∃ n, n = (packBody al).length := ⟨_, rfl⟩
  have hkm : k ≤ L.m := by rw [HK.out]; exact LLog.high_le HOK.out keep
  have hbt : L.bytes.take k = (packBody L.all).take k := by unfold LLog.bytes; rw [List.take_take, Nat.min_eq_left hkm]
  have htn : t.extract 0 n = strOf (packBody al) := by
    rw [ht, strOf_ext, hbt, hn, hal, hwm]; rfl
  have hnt : n ≤ t.size := by
    rw [ht, strOf_sz, hbt, hn, hal, ← hwm, List.length_take]
    exact Nat.min_le_right _ _
  have hts : t.size ≤ 56400 := by rw [ht, strOf_sz, List.length_take, HOK.out.bytes_len]; have := HOK.out.m_small; omega
  have HC : Hid (L.crash keep = ⟨al, n, n, -1, false⟩) := by show _ = _; unfold LLog.crash; rw [← HK.out, ← hal, ← hn]
  have HCD : Hid ((L.crash keep).doc = LDoc.new.all al) := by
    show _ = _
    rw [HC.out]
    unfold LLog.doc LLog.kept
    simp only
    rw [whole_all _ _ (by rw [hn]; exact Nat.le_refl _), List.take_length]
  have HCB : Hid ((L.crash keep).bytes = packBody al) := by
    show _ = _
    rw [HC.out]
    unfold LLog.bytes
    simp only
    rw [hn, List.take_length]
  rw [← hal, ← hn, ← ht] at HRE
  rw [← ht]
  have HTN := Lib.hid htn
  have HI1 : Hid (LogSt w.drew B S b L bd SD D L.doc) := HI.out.drewN 1
  have HO1 : Hid (Only S w w.drew) := (Only.refl S w).drew
  clear c0 c1 c2 c3 c4 hmn hmx q0 q1 q2 q3 q4 q5 q6 hwm hn hal hbt htn hkm ht HEX HRED
  generalize w.drew = W1 at *
  go_wp2_with fail
  refine (HRE.out W1).mono ?_
  rintro en w2 ⟨bn, Sn, Dn, rfl, hdn, hb2⟩
  have HDN := Lib.hid hdn
  have HB2 := Lib.hid hb2
  have HBK := Lib.hid (HI1.out.blk.below hb2 HI1.out.base.2)
  have x0 := HBK.out.cell 0
  have x1 := HBK.out.cell 1
  have x2 := HBK.out.cell 2
  have x3 := HBK.out.cell 3
  have x4 := HBK.out.cell 4
  have f0 := HBK.out.frozen 0
  have f1 := HBK.out.frozen 1
  have f2 := HBK.out.frozen 2
  have f3 := HBK.out.frozen 3
  have f4 := HBK.out.frozen 4
  unfold LLog.cells at x0 x1 x2 x3 x4
  simp only [List.getElem?_toArray, List.getElem?_cons_zero, List.getElem?_cons_succ] at x0 x1 x2 x3 x4
  have n0 : (n : Int) ≤ (t.size : Int) := by omega
  have n1 : (0 : Int) ≤ (n : Int) := by omega
  have n2 : (n : Int) ≤ 56400 := by omega
  have n3 : (n : Int).toNat = n := by omega
  clear hdn hb2 HRE
  go_wp2_with fail
  go_region
  go_wp2_with fail
  first | go_end0 | (refine bodyPost_ret (results_none rfl _ _ _) rfl ?_)
  refine ⟨rfl, ?_⟩
  have hblk : Blk (((((w2.setCell ⟨b, 0, none⟩ (.pointer (some ⟨bn, 0, none⟩))).setCell ⟨b, 1, none⟩ (.string (t.extract 0 n))).setCell ⟨b, 2, none⟩ (.int .i64 (n : Int))).setCell ⟨b, 3, none⟩ (.int .i64 (-1))).setCell ⟨b, 4, none⟩ (.bool false)).drew b 118 ((L.crash keep).cells bn) := by
    have h3 := ((((HBK.out.set_ 0 (.pointer (some ⟨bn, 0, none⟩))).set_ 1 (.string (t.extract 0 n))).set_ 2 (.int .i64 (n : Int))).set_ 3 (.int .i64 (-1))).set_ 4 (.bool false)
    have e : (L.crash keep).cells bn = #[.pointer (some ⟨bn, 0, none⟩), .string (t.extract 0 n), .int .i64 (n : Int), .int .i64 (-1), .bool false] := by
      unfold LLog.cells
      rw [HCB.out, HTN.out, HC.out]
    rw [e]
    exact h3
  have ho : Only [b] w2 (((((w2.setCell ⟨b, 0, none⟩ (.pointer (some ⟨bn, 0, none⟩))).setCell ⟨b, 1, none⟩ (.string (t.extract 0 n))).setCell ⟨b, 2, none⟩ (.int .i64 (n : Int))).setCell ⟨b, 3, none⟩ (.int .i64 (-1))).setCell ⟨b, 4, none⟩ (.bool false)).drew :=
    ((((((Only.refl [b] w2).setCell (.inl (by simp)) _).setCell (.inl (by simp)) _).setCell (.inl (by simp)) _).setCell (.inl (by simp)) _).setCell (.inl (by simp)) _).drew
  have hbw : B ≤ W1.heap.size := by have := HI1.out.base; omega
  obtain ⟨k1, k2, k3⟩ := LogSt.lay (L' := L.crash keep) HI1.out hbw HB2.out HDN.out ho hblk
  refine ⟨b :: Sn, bn, Sn, Dn, ?_, HO1.out.trans_new k2 (fun i hi => .inl hi), ?_⟩
  · show LogSt _ B _ b _ bn Sn Dn (L.crash keep).doc
    rw [HCD.out]
    exact k1
  · intro g hg
    rcases k3 g hg with h5 | h5
    · exact .inl h5
    · exact .inr (Nat.le_trans HO1.out.size h5)
end
end Go.Proofs.YthfbjfocmnikaaaGreatDoor
/- Which documents a log has been, and which of them a crash leaves: plain. Conditions: none. -/
namespace Go.Proofs.YthfbjfocmnikaaaGreatDoor
open Go.RowKit
set_option linter.unusedVariables false
namespace LLog
variable {L : LLog}
/-- The document behind each op, the empty one first. -/
def trail (l : List LOp) : List LDoc := (List.range (l.length + 1)).map fun i => LDoc.new.all (l.take i)
/-- How many bytes there were behind each op. -/
def marks (l : List LOp) : List Int := (List.range (l.length + 1)).map fun i => ((packBody (l.take i)).length : Int)
theorem trail_len (l : List LOp) : (trail l).length = l.length + 1 := by simp [trail]
theorem marks_len (l : List LOp) : (marks l).length = l.length + 1 := by simp [marks]
theorem trail_at (l : List LOp) {i : Nat} (h : i ≤ l.length) : (trail l)[i]? = some (LDoc.new.all (l.take i)) := by
  unfold trail
  rw [List.getElem?_map, List.getElem?_range (by omega)]; rfl
theorem marks_at (l : List LOp) {i : Nat} (h : i ≤ l.length) : (marks l)[i]? = some ((packBody (l.take i)).length : Int) := by
  unfold marks
  rw [List.getElem?_map, List.getElem?_range (by omega)]; rfl
theorem trail_snoc (l : List LOp) (o : LOp) : trail (l ++ [o]) = trail l ++ [LDoc.new.all (l ++ [o])] := by
  unfold trail
  rw [List.length_append, List.length_cons, List.length_nil, List.range_succ, List.map_append, List.map_cons, List.map_nil]
  congr 1
  · refine List.map_congr_left fun i hi => ?_
    rw [List.mem_range] at hi
    rw [List.take_append_of_le_length (by omega)]
  · rw [List.take_of_length_le (by simp)]
theorem marks_snoc (l : List LOp) (o : LOp) : marks (l ++ [o]) = marks l ++ [((packBody (l ++ [o])).length : Int)] := by
  unfold marks
  rw [List.length_append, List.length_cons, List.length_nil, List.range_succ, List.map_append, List.map_cons, List.map_nil]
  congr 1
  · refine List.map_congr_left fun i hi => ?_
    rw [List.mem_range] at hi
    rw [List.take_append_of_le_length (by omega)]
  · rw [List.take_of_length_le (by simp)]
theorem trail_take (l : List LOp) {k : Nat} (h : k ≤ l.length) : trail (l.take k) = (trail l).take (k + 1) := by
  refine List.ext_getElem? fun i => ?_
  rcases Nat.lt_or_ge i (k + 1) with hi | hi
  · rw [trail_at _ (by rw [List.length_take]; omega), List.getElem?_take_of_lt hi, trail_at _ (by omega), List.take_take, Nat.min_eq_left (by omega)]
  · rw [List.getElem?_eq_none (by rw [trail_len, List.length_take]; omega), List.getElem?_eq_none (by rw [List.length_take]; omega)]
theorem marks_take (l : List LOp) {k : Nat} (h : k ≤ l.length) : marks (l.take k) = (marks l).take (k + 1) := by
  refine List.ext_getElem? fun i => ?_
  rcases Nat.lt_or_ge i (k + 1) with hi | hi
  · rw [marks_at _ (by rw [List.length_take]; omega), List.getElem?_take_of_lt hi, marks_at _ (by omega), List.take_take, Nat.min_eq_left (by omega)]
  · rw [List.getElem?_eq_none (by rw [marks_len, List.length_take]; omega), List.getElem?_eq_none (by rw [List.length_take]; omega)]
theorem Ok.kept_len (h : L.Ok) : L.kept.length = whole L.all L.m := by
  unfold kept
  rw [List.length_take, Nat.min_eq_left (whole_le _ _)]
theorem Ok.kept_few (h : L.Ok) : L.kept.length ≤ 400 := by
  have h1 := h.few
  have h2 := whole_le L.all L.m
  rw [h.kept_len]; omega
theorem trail_last (L : LLog) : (trail L.kept)[L.kept.length]? = some L.doc := by rw [trail_at _ (Nat.le_refl _), List.take_length]; rfl
theorem sync_kept : L.sync.kept = L.kept := by unfold sync; split; · rfl
                                               split <;> rfl
theorem sync_doc : L.sync.doc = L.doc := by unfold doc; rw [sync_kept]
theorem sync_safe (h : L.syncE = 0) : L.sync.safe = L.sync.m := by
  unfold syncE at h
  unfold sync
  split at h
  · cases h
  split at h
  · cases h
  rename_i h1 h2
  rw [if_neg h1, if_neg h2]
/-- What is put and taken is there. -/
theorem Ok.put_took (h : L.Ok) {o : LOp} (hE : L.putE o = 0) (hB : L.putB o = true) : (L.put o).kept = L.kept ++ [o] ∧ L.m + 2 ≤ (L.put o).m ∧ (L.put o).doc = L.doc.apply o ∧ (L.put o).m = (packBody (L.kept ++ [o])).length := by
  have hB' := hB
  unfold putB at hB'
  simp only [Bool.and_eq_true, Bool.not_eq_true', decide_eq_false_iff_not] at hB'
  obtain ⟨⟨hs, hb⟩, hl⟩ := hB'
  have h1 := put_go h hs hb hl
  have hll := logOp_len o
  have hm : (packBody (L.all ++ [o])).length = L.m + (logOp o).length := by rw [packBody_app, packBody_one, List.length_append, h.full hs]
  refine ⟨?_, ?_, h1.2.1, ?_⟩
  · rw [h1.1]
    unfold kept
    simp only
    rw [whole_all (L.all ++ [o]) _ (by rw [hm]; exact Nat.le_refl _), List.take_length, whole_all L.all _ (by rw [h.full hs]; exact Nat.le_refl _), List.take_length]
  · rw [h1.1]; simp only; omega
  · rw [h1.1, h.kept_all hs]; simp only; omega
/-- What is not taken changes nothing. -/
theorem Ok.put_not (h : L.Ok) {o : LOp} (hn : ¬ (L.putE o = 0 ∧ L.putB o = true)) : (L.put o).kept = L.kept := by
  unfold LLog.put
  split
  · rfl
  rename_i hs
  have hs : L.stopped = false := by simpa using hs
  split
  · rfl
  rename_i hb
  have hb : L.doc.applyB o = true := by simpa using hb
  split
  · have hll := logOp_len o
    unfold kept
    simp only
    rw [h.full hs, whole_snoc (by omega), List.take_left, whole_all _ _ (Nat.le_refl _), List.take_length]
  · rename_i hl
    have h1 := put_go h hs hb hl
    exact absurd ⟨h1.2.2.2.1, h1.2.2.2.2⟩ hn
/-- Unless it has stopped, what is told is what the document says. -/
theorem put_told (o : LOp) (hn : L.putE o ≠ 6) : L.putE o = L.doc.applyE o ∧ L.putB o = L.doc.applyB o := by
  unfold putE at hn
  unfold putE putB
  split at hn
  · exact absurd rfl hn
  rename_i hs
  rw [if_neg hs]
  have hs : L.stopped = false := by simpa using hs
  split at hn
  · rename_i he
    rw [if_pos he]
    refine ⟨rfl, ?_⟩
    have : L.doc.applyB o = false := by
      rcases hb : L.doc.applyB o with _ | _
      · rfl
      · exact absurd (LDoc.applyB_E hb) he
    rw [this]; simp
  · rename_i he
    rw [if_neg he]
    have he : L.doc.applyE o = 0 := by simpa using he
    split at hn
    · rename_i hb
      rw [if_pos hb, hb, he]; simp
    · rename_i hb
      rw [if_neg hb]
      split at hn
      · exact absurd rfl hn
      · rename_i hl
        rw [if_neg hl, he, hs, decide_eq_false hl]; simp
/-- How many ops a crash leaves. -/
def rest (L : LLog) (keep : Int) : Nat := whole L.all (L.high keep)
theorem Ok.rest_le (h : L.Ok) (keep : Int) : L.rest keep ≤ L.kept.length := by
  rw [h.kept_len]
  exact whole_most _ _ _ (whole_le _ _) (Nat.le_trans (whole_bytes _ _) (high_le h keep))
theorem Ok.kept_take (h : L.Ok) {k : Nat} (hk : k ≤ L.kept.length) : L.kept.take k = L.all.take k := by
  rw [h.kept_len] at hk
  unfold kept
  rw [List.take_take, Nat.min_eq_left hk]
theorem Ok.crash_kept (h : L.Ok) (keep : Int) : (L.crash keep).kept = L.kept.take (L.rest keep) := by
  rw [h.kept_take (h.rest_le keep)]
  unfold kept LLog.crash rest
  simp only
  rw [whole_all _ _ (Nat.le_refl _), List.take_length]
theorem Ok.crash_doc (h : L.Ok) (keep : Int) : (L.crash keep).doc = LDoc.new.all (L.kept.take (L.rest keep)) := by
  unfold doc; rw [h.crash_kept]
theorem Ok.crash_m (h : L.Ok) (keep : Int) : (L.crash keep).m = (packBody (L.kept.take (L.rest keep))).length ∧ (L.crash keep).safe = (packBody (L.kept.take (L.rest keep))).length := by
  rw [h.kept_take (h.rest_le keep)]
  exact ⟨rfl, rfl⟩
/-- The last of the marks that is not above. -/
structure Left (l : List LOp) (high : Int) (k left : Nat) : Prop where
  low : left ≤ l.length
  ok : ((packBody (l.take left)).length : Int) ≤ high
  most : ∀ i, i < k → i ≤ l.length → ((packBody (l.take i)).length : Int) ≤ high → i ≤ left
  few : left ≤ k
theorem Left.zero (l : List LOp) {high : Int} (h : 0 ≤ high) : Left l high 0 0 := ⟨Nat.zero_le _, by simpa [packBody] using h, fun i hi => by omega, Nat.le_refl _⟩
theorem Left.yes {l : List LOp} {high : Int} {k left : Nat} (h : Left l high k left) (hk : k ≤ l.length) (hm : ((packBody (l.take k)).length : Int) ≤ high) : Left l high (k + 1) k :=
  ⟨hk, hm, fun i hi _ _ => by omega, by omega⟩
theorem Left.no {l : List LOp} {high : Int} {k left : Nat} (h : Left l high k left) (hm : ¬ ((packBody (l.take k)).length : Int) ≤ high) : Left l high (k + 1) left :=
  ⟨h.low, h.ok, fun i hi hl hi2 => by
    rcases Nat.lt_or_ge i k with h1 | h1
    · exact h.most i h1 hl hi2
    · obtain rfl : i = k := by omega
      exact absurd hi2 hm, Nat.le_succ_of_le h.few⟩
theorem Ok.left_is (h : L.Ok) {keep : Int} {left : Nat} (hl : Left L.kept (L.high keep : Nat) (L.kept.length + 1) left) : left = L.rest keep := by
  have h1 := h.rest_le keep
  have h2 := hl.most (L.rest keep) (by omega) h1 (by
    rw [h.kept_take h1]
    unfold rest
    exact Int.ofNat_le.2 (whole_bytes _ _))
  have h3 := hl.ok
  rw [h.kept_take hl.low] at h3
  have h4 : left ≤ L.all.length := by have := hl.low; have := h.kept_len; have := whole_le L.all L.m; omega
  have h5 := whole_most L.all (L.high keep) left h4 (Int.ofNat_le.1 h3)
  unfold rest at *
  omega
/-- What the law says of it. -/
theorem Ok.high_is (h : L.Ok) (keep : Int) : (L.high keep : Int) = if 0 < keep then (if keep < (L.m : Int) - L.safe then (L.safe : Int) + keep else L.m) else L.safe := by
  have := h.safe
  unfold high
  split
  · split <;> omega
  · omega
end LLog
end Go.Proofs.YthfbjfocmnikaaaGreatDoor
/- (*log.Log).Fail, walked. Conditions: the log is right. -/
namespace Go.Proofs.YthfbjfocmnikaaaGreatDoor
open Go.RowKit
set_option linter.unusedVariables false
section
variable (w : World) (B : Nat) (S : List Nat) (b : Nat) (L : LLog) (bd : Nat) (SD : List Nat) (D : DLay) (st : LDoc) (h : LogSt w B S b L bd SD D st)
include h
set_option maxRecDepth 100000 in
theorem lfail_any (n : Int) (hn0 : -9223372036854775808 ≤ n) (hn1 : n ≤ 9223372036854775807) : Calls Tryz.prog 18 #[.pointer (some ⟨b, 0, none⟩), .int .i64 n] w (LogOn w B S b bd SD D st (L.fail n) (.tuple #[])) := by
  obtain ⟨c0, c1, c2, c3, c4⟩ := five_ w B S b L bd SD D st h
  have f3 := h.blk.frozen 3
  have hmx : ∀ W, (Builtin.max_ #[3, 3] 3 #[.int .i64 (-1), .int .i64 n]).run Tryz.prog W = .ok (.int .i64 (if n < -1 then -1 else n)) W := fun W => by rw [run_max_int2]; congr 2; split <;> split <;> omega
  have HF : Hid (LogSt (w.setCell ⟨b, 3, none⟩ (.int .i64 (if n < -1 then -1 else n))) B S b (L.fail n) bd SD D st) := by
    show LogSt _ B S b _ bd SD D st
    refine LogSt.set (L' := L.fail n) h ((Only.refl [b] w).setCell (.inl (by simp)) _) ?_
    exact h.blk.set_ 3 (.int .i64 (if n < -1 then -1 else n))
  have HO : Hid (Only [b] w (w.setCell ⟨b, 3, none⟩ (.int .i64 (if n < -1 then -1 else n)))) := (Only.refl [b] w).setCell (.inl (by simp)) _
  generalize (if n < -1 then -1 else n) = m at *
  clear h
  go_enter Tryz.func18, Tryz.ntmps18
  go_wp2_with fail
  first | go_end0 | (refine bodyPost_ret (results_none rfl _ _ _) rfl ?_)
  exact ⟨rfl, HF.out, HO.out⟩
end
end Go.Proofs.YthfbjfocmnikaaaGreatDoor
/- (*log.Log).Bytes, Safe, walked. Conditions: the log is right. -/
namespace Go.Proofs.YthfbjfocmnikaaaGreatDoor
open Go.RowKit
set_option linter.unusedVariables false
section
variable (w : World) (B : Nat) (S : List Nat) (b : Nat) (L : LLog) (bd : Nat) (SD : List Nat) (D : DLay) (st : LDoc) (h : LogSt w B S b L bd SD D st) (ok : L.Ok)
include h
set_option maxRecDepth 100000 in
theorem lsafe_any : Calls Tryz.prog 16 #[.pointer (some ⟨b, 0, none⟩)] w (fun e w' => e = .returned (.int .i64 (L.safe : Nat)) ∧ w' = w) := by
  obtain ⟨c0, c1, c2, c3, c4⟩ := five_ w B S b L bd SD D st h
  clear h
  go_enter Tryz.func16, Tryz.ntmps16
  go_wp2_with fail
  go_ret
  exact ⟨rfl, rfl⟩
include ok
set_option maxRecDepth 100000 in
theorem lbytes_any : Calls Tryz.prog 15 #[.pointer (some ⟨b, 0, none⟩)] w (fun e w' => e = .returned (.int .i64 (L.m : Nat)) ∧ w' = w) := by
  obtain ⟨c0, c1, c2, c3, c4⟩ := five_ w B S b L bd SD D st h
  have hm : (strOf L.bytes).size = L.m := by rw [strOf_sz, ok.bytes_len]
  obtain ⟨s, hs⟩ : ∃ s, s = strOf L.bytes := ⟨_, rfl⟩
  rw [← hs] at hm c1
  have HM := Lib.hid hm
  clear h ok hs hm
  go_enter Tryz.func15, Tryz.ntmps15
  go_wp2_with fail
  go_ret
  exact ⟨by rw [← HM.out]; rfl, rfl⟩
end
end Go.Proofs.YthfbjfocmnikaaaGreatDoor
/- A log in a law, the reference's documents and two rows beside it, that it leaves alone. Conditions: none of our own. -/
namespace Go.Proofs.YthfbjfocmnikaaaGreatDoor
open Go.RowKit
set_option linter.unusedVariables false
/-- A log of the call's own, all of it from B on; it turns none of the blocks K. -/
def LK (w : World) (B b : Nat) (L : LLog) (K : List Nat) (wr : World) : Prop := L.Ok ∧ w.heap.size ≤ B ∧ Below w.heap.size w wr ∧ B ≤ wr.heap.size ∧ ∃ S bd SD D, LogIs wr B S b L bd SD D ∧ ∀ g ∈ K, g ∉ S ∧ g < wr.heap.size
/-- Only blocks from B on have turned, none of K. -/
def Off (B : Nat) (K : List Nat) (w w' : World) : Prop := ∃ T, Only T w w' ∧ ∀ g ∈ T, B ≤ g ∧ g ∉ K
theorem Off.of_below {B : Nat} {K : List Nat} {w w' : World} (h : Below w.heap.size w w') : Off B K w w' := ⟨[], Only.of_below h, by simp⟩
namespace LK
variable {w wr w' : World} {B b : Nat} {L L' : LLog} {K K' T : List Nat}
theorem ok (h : LK w B b L K wr) : L.Ok := h.1
theorem base (h : LK w B b L K wr) : w.heap.size ≤ B := h.2.1
theorem below (h : LK w B b L K wr) : Below w.heap.size w wr := h.2.2.1
theorem make (hw : Below w.heap.size w wr) {e : Ending} (hp : LNewPost wr e w') : ∃ b, e = .returned (.pointer (some ⟨b, 0, none⟩)) ∧ LK w wr.heap.size b LLog.new [] w' := by
  obtain ⟨b, S, bd, SD, D, rfl, h1, h2⟩ := hp
  exact ⟨b, rfl, LLog.new_ok, hw.size, hw.trans (h2.mono hw.size), h2.size, S, bd, SD, D, h1, by simp⟩
/-- Something else has turned, some of K; more is kept. -/
theorem go (h : LK w B b L K wr) (ho : Only T wr w') (hT : ∀ g ∈ T, g ∈ K ∧ B ≤ g) (hK : ∀ g ∈ K', g ∈ K ∨ wr.heap.size ≤ g ∧ g < w'.heap.size) : LK w B b L K' w' := by
  obtain ⟨h1, h2, h3, h0, S, bd, SD, D, h4, h5⟩ := h
  refine ⟨h1, h2, h3.trans (ho.below h3.size (fun g hg => Nat.le_trans h2 (hT g hg).2)), Nat.le_trans h0 ho.size, S, bd, SD, D, h4.only ho (fun g hg => (h5 g (hT g hg).1).1), fun g hg => ?_⟩
  rcases hK g hg with h | ⟨h, h'⟩
  · exact ⟨(h5 g h).1, Nat.lt_of_lt_of_le (h5 g h).2 ho.size⟩
  · exact ⟨fun hm => by have := (h4.own g hm).2; omega, h'⟩
theorem step (h : LK w B b L K wr) (hb : Below wr.heap.size wr w') : LK w B b L K w' := h.go (T := []) (Only.of_below hb) (by simp) (fun g hg => .inl hg)
theorem lt (h : LK w B b L K wr) : ∀ g ∈ K, g < wr.heap.size := by
  obtain ⟨h1, h2, h3, h0, S, bd, SD, D, h4, h5⟩ := h
  exact fun g hg => (h5 g hg).2
theorem gone (h : LK w B b L K wr) (ok : L'.Ok) {S : List Nat} (hS : ∀ g ∈ S, B ≤ g) (hX : ∀ g ∈ K, g ∉ S) (ht : LogTo wr B S b L' w') : LK w B b L' K w' ∧ Off B K wr w' := by
  obtain ⟨h1, h2, h3, h0, S0, bd0, SD0, D0, _, h5⟩ := h
  obtain ⟨S', bd, SD, D, k1, k2, k3⟩ := ht
  refine ⟨⟨ok, h2, h3.trans (k2.below h3.size (fun i hi => Nat.le_trans h2 (hS i hi))), Nat.le_trans h0 k2.size, S', bd, SD, D, k1, fun x hx => ⟨fun hm => ?_, Nat.lt_of_lt_of_le (h5 x hx).2 k2.size⟩⟩, S, k2, fun g hg => ⟨hS g hg, fun hm => hX g hm hg⟩⟩
  rcases k3 _ hm with h | h
  · exact hX x hx h
  · have := (h5 x hx).2; omega
theorem put (h : LK w B b L K wr) (o : LOp) (A : Option Addr) (c : Nat) (hp : o.place.size ≤ 9223372036854775807) (hr : Reads w w.heap.size 2 A o.seen.length (dcells o.seen)) :
    Calls Tryz.prog 10 #[.pointer (some ⟨b, 0, none⟩), o.val A c] wr (fun e w' => e = .returned (.tuple #[.bool (L.putB o), errV (L.putE o)]) ∧ LK w B b (L.put o) K w' ∧ Off B K wr w') := by
  obtain ⟨h1, h2, h3, h0, S, bd, SD, D, h4, h5⟩ := id h
  have hS : ∀ g ∈ S, B ≤ g := fun g hg => (h4.own g hg).1
  refine (lput_any wr B S b L bd SD D h4 h1 o A c hp ((hr.below h3).more h3.size) (fun hn g hg hm => ?_)).mono ?_
  · exact hr.far (S := S) (fun g hg => Nat.le_trans h2 (hS g hg)) hn g hg hm
  · rintro e w' ⟨rfl, ht⟩
    exact ⟨rfl, h.gone (h1.put o) hS (fun x hx => (h5 x hx).1) ht⟩
theorem put0 (h : LK w B b L K wr) (o : LOp) (hs : o.seen = []) (hp : o.place.size ≤ 9223372036854775807) :
    Calls Tryz.prog 10 #[.pointer (some ⟨b, 0, none⟩), o.val none 0] wr (fun e w' => e = .returned (.tuple #[.bool (L.putB o), errV (L.putE o)]) ∧ LK w B b (L.put o) K w' ∧ Off B K wr w') :=
  h.put o none 0 hp (by rw [hs]; exact (Own.nil w w.heap.size 27 2).reads)
theorem on (h : LK w B b L K wr) (ok : L'.Ok) {S SD : List Nat} {bd : Nat} {D : DLay} {v : Value} {e : Ending} (hb : b ∈ S) (hS : ∀ g ∈ S, B ≤ g) (hX : ∀ x ∈ K, x ∉ S) (hd : L'.doc = L.doc) (ht : LogOn wr B S b bd SD D L.doc L' v e w') : e = .returned v ∧ LK w B b L' K w' ∧ Off B K wr w' := by
  obtain ⟨rfl, k1, k2⟩ := ht
  refine ⟨rfl, h.gone ok hS hX ⟨S, bd, SD, D, ?_, k2.mono (fun i hi => by simp at hi; subst hi; exact .inl hb), fun g hg => .inl hg⟩⟩
  show LogSt _ B S b L' bd SD D L'.doc
  rw [hd]
  exact k1
theorem sync (h : LK w B b L K wr) : Calls Tryz.prog 11 #[.pointer (some ⟨b, 0, none⟩)] wr (fun e w' => e = .returned (errV L.syncE) ∧ LK w B b L.sync K w' ∧ Off B K wr w') := by
  obtain ⟨h1, h2, h3, h0, S, bd, SD, D, h4, h5⟩ := id h
  refine (lsync_any wr B S b L bd SD D L.doc h4 h1).mono ?_
  intro e w' ht
  exact h.on h1.sync h4.subb (fun g hg => (h4.own g hg).1) (fun x hx => (h5 x hx).1) LLog.sync_doc ht
theorem fail (h : LK w B b L K wr) (n : Int) (hn0 : -9223372036854775808 ≤ n) (hn1 : n ≤ 9223372036854775807) : Calls Tryz.prog 18 #[.pointer (some ⟨b, 0, none⟩), .int .i64 n] wr (fun e w' => e = .returned (.tuple #[]) ∧ LK w B b (L.fail n) K w' ∧ Off B K wr w') := by
  obtain ⟨h1, h2, h3, h0, S, bd, SD, D, h4, h5⟩ := id h
  refine (lfail_any wr B S b L bd SD D L.doc h4 n hn0 hn1).mono ?_
  intro e w' ht
  exact h.on (h1.fail hn1) h4.subb (fun g hg => (h4.own g hg).1) (fun x hx => (h5 x hx).1) rfl ht
theorem crash (h : LK w B b L K wr) (keep : Int) (hk0 : -9223372036854775808 ≤ keep) (hk1 : keep ≤ 9223372036854775807) : Calls Tryz.prog 12 #[.pointer (some ⟨b, 0, none⟩), .int .i64 keep] wr (fun e w' => e = .returned (.tuple #[]) ∧ LK w B b (L.crash keep) K w' ∧ Off B K wr w') := by
  obtain ⟨h1, h2, h3, h0, S, bd, SD, D, h4, h5⟩ := id h
  refine (lcrash_any wr B S b L bd SD D h4 h1 keep hk0 hk1).mono ?_
  rintro e w' ⟨rfl, ht⟩
  exact ⟨rfl, h.gone (h1.crash keep) (fun g hg => (h4.own g hg).1) (fun x hx => (h5 x hx).1) ht⟩
theorem doc (h : LK w B b L K wr) : Calls Tryz.prog 13 #[.pointer (some ⟨b, 0, none⟩)] wr (fun e w' => ∃ bd SD D, e = .returned (.pointer (some ⟨bd, 0, none⟩)) ∧ w' = wr ∧ DocIs wr B SD bd L.doc D ∧ L.doc.Ok) := by
  obtain ⟨h1, h2, h3, h0, S, bd, SD, D, h4, h5⟩ := h
  refine (ldoc_any wr B S b L bd SD D L.doc h4).mono ?_
  rintro e w' ⟨rfl, rfl⟩
  exact ⟨bd, SD, D, rfl, rfl, h4.doc, h1.doc_ok⟩
theorem bytes (h : LK w B b L K wr) : Calls Tryz.prog 15 #[.pointer (some ⟨b, 0, none⟩)] wr (fun e w' => e = .returned (.int .i64 (L.m : Nat)) ∧ w' = wr) := by
  obtain ⟨h1, h2, h3, h0, S, bd, SD, D, h4, h5⟩ := h
  exact lbytes_any wr B S b L bd SD D L.doc h4 h1
theorem safe (h : LK w B b L K wr) : Calls Tryz.prog 16 #[.pointer (some ⟨b, 0, none⟩)] wr (fun e w' => e = .returned (.int .i64 (L.safe : Nat)) ∧ w' = wr) := by
  obtain ⟨h1, h2, h3, h0, S, bd, SD, D, h4, h5⟩ := h
  exact lsafe_any wr B S b L bd SD D L.doc h4
end LK
theorem Own.take {w : World} {B : Nat} {e : TypeId} {size n c k : Nat} {A : Option Addr} {xs : List Value} (h : Own w B e size A n c xs) (hk : k ≤ n) (hn : 0 < n) : Own w B e size A k c (xs.take (k * size)) := by
  obtain ⟨h1, h2⟩ := h
  have hm : k * size ≤ n * size := Nat.mul_le_mul_right _ hk
  refine ⟨by rw [List.length_take, h1, Nat.min_eq_left hm], ?_⟩
  rcases h2 with ⟨_, h2⟩ | ⟨g, cap, cur, hv, hb, hg, hc, hx, hs, ht⟩
  · omega
  · have hc' : cap = c := by injection hv with _ _ h; exact h.symm
    have hA : A = some ⟨g, 0, none⟩ := by injection hv
    exact .inr ⟨g, cap, cur, by rw [hA, hc'], hb, hg, Nat.le_trans hk hc, hx, hs, by rw [← ht, List.take_take, Nat.min_eq_left hm]⟩
def pps (ps : List Nat) : List Value := ps.map fun p => .pointer (some ⟨p, 0, none⟩)
/-- A log, and beside it the documents that it has been, one behind the other, and a row of numbers. -/
structure KS (w : World) (B b : Nat) (L : LLog) (sts : List LDoc) (ms : List Int) (A1 : Option Addr) (c1 : Nat) (A2 : Option Addr) (c2 : Nat) (wr : World) (K K0 ps : List Nat) : Prop where
  log : LK w B b L K wr
  sub : ∀ g ∈ K0, g ∈ K
  s1 : ∀ g ∈ ob A1, g ∈ K
  s2 : ∀ g ∈ ob A2, g ∈ K
  ap1 : ∀ g ∈ ob A1, g ∉ K0
  ap2 : ∀ g ∈ ob A2, g ∉ K0
  len : ps.length = sts.length
  docs : ∀ (i p : Nat) (st : LDoc), ps[i]? = some p → sts[i]? = some st → ∃ S D, RDocIs wr B S p st D ∧ ∀ g ∈ S, g ∈ K0
  done : Own wr B 41 1 A1 ps.length c1 (pps ps)
  mark : Own wr B 3 1 A2 ms.length c2 (ints ms)
/-- A document of the reference's beside it, that may be turned. -/
structure KX (wr : World) (B : Nat) (A1 A2 : Option Addr) (K K0 : List Nat) (p : Nat) (st : LDoc) (S : List Nat) (D : RLay) : Prop where
  is : RDocIs wr B S p st D
  sub : ∀ g ∈ S, g ∈ K
  tn : ∀ g ∈ D.turns p, g ∉ K0 ∧ g ∉ ob A1 ∧ g ∉ ob A2
  ap1 : ∀ g ∈ ob A1, g ∉ S
  ap2 : ∀ g ∈ ob A2, g ∉ S
namespace KS
variable {w wr w' : World} {B b : Nat} {L L' : LLog} {sts : List LDoc} {ms : List Int} {A1 A2 A1' A2' : Option Addr} {c1 c2 c1' c2' : Nat} {K K' K0 ps T : List Nat}
/-- Something has turned, nothing of the documents and the rows. -/
theorem move (h : KS w B b L sts ms A1 c1 A2 c2 wr K K0 ps) (hL : LK w B b L' K' w') (ho : Only T wr w') (hT : ∀ g ∈ T, B ≤ g ∧ g ∉ K0 ∧ g ∉ ob A1 ∧ g ∉ ob A2) (hK : ∀ g ∈ K, g ∈ K') : KS w B b L' sts ms A1 c1 A2 c2 w' K' K0 ps where
  log := hL
  sub := fun g hg => hK g (h.sub g hg)
  s1 := fun g hg => hK g (h.s1 g hg)
  s2 := fun g hg => hK g (h.s2 g hg)
  ap1 := h.ap1
  ap2 := h.ap2
  len := h.len
  docs := fun i p st hp hs => by
    obtain ⟨S, D, h1, h2⟩ := h.docs i p st hp hs
    exact ⟨S, D, h1.only ho (fun g hg => ⟨(hT g hg).1, fun hm => (hT g hg).2.1 (h2 g hm)⟩), h2⟩
  done := h.done.only ho (fun g hg hm => (hT g hm).2.2.1 hg)
  mark := h.mark.only ho (fun g hg hm => (hT g hm).2.2.2 hg)
theorem step (h : KS w B b L sts ms A1 c1 A2 c2 wr K K0 ps) (hb : Below wr.heap.size wr w') : KS w B b L sts ms A1 c1 A2 c2 w' K K0 ps :=
  h.move (h.log.step hb) (T := []) (Only.of_below hb) (by simp) (fun g hg => hg)
/-- The log alone has gone on. -/
theorem on (h : KS w B b L sts ms A1 c1 A2 c2 wr K K0 ps) (hL : LK w B b L' K w') (ho : Off B K wr w') : KS w B b L' sts ms A1 c1 A2 c2 w' K K0 ps := by
  obtain ⟨T, h1, h2⟩ := ho
  exact h.move hL h1 (fun g hg => ⟨(h2 g hg).1, fun hm => (h2 g hg).2 (h.sub g hm), fun hm => (h2 g hg).2 (h.s1 g hm), fun hm => (h2 g hg).2 (h.s2 g hm)⟩) (fun g hg => hg)
theorem onX {p : Nat} {st : LDoc} {S : List Nat} {D : RLay} (x : KX wr B A1 A2 K K0 p st S D) (ho : Off B K wr w') : KX w' B A1 A2 K K0 p st S D := by
  obtain ⟨T, h1, h2⟩ := ho
  exact ⟨x.is.only h1 (fun g hg => ⟨(h2 g hg).1, fun hm => (h2 g hg).2 (x.sub g hm)⟩), x.sub, x.tn, x.ap1, x.ap2⟩
/-- The other document has gone on. -/
theorem turn {p : Nat} {st st' : LDoc} {S : List Nat} {D : RLay} (h : KS w B b L sts ms A1 c1 A2 c2 wr K K0 ps) (x : KX wr B A1 A2 K K0 p st S D) (ht : RDocTo wr B S p D st' w') :
    ∃ K' S' D', KS w B b L sts ms A1 c1 A2 c2 w' K' K0 ps ∧ KX w' B A1 A2 K' K0 p st' S' D' := by
  obtain ⟨S', D', h1, h2, h3, h4, _⟩ := ht
  have hlt := h.log.lt
  have hB : ∀ g ∈ D.turns p, g ∈ K ∧ B ≤ g := fun g hg => ⟨x.sub g (x.is.sub g hg), (x.is.own g (x.is.sub g hg)).1⟩
  refine ⟨K ++ S'.filter (fun g => decide (wr.heap.size ≤ g)), S', D', h.move (h.log.go h2 hB (fun g hg => ?_)) h2 (fun g hg => ⟨(hB g hg).2, (x.tn g hg).1, (x.tn g hg).2⟩) (fun g hg => List.mem_append_left _ hg), h1, fun g hg => ?_, fun g hg => ?_, fun g hg hm => ?_, fun g hg hm => ?_⟩
  · rcases List.mem_append.1 hg with h | h
    · exact .inl h
    · rw [List.mem_filter] at h
      exact .inr ⟨by simpa using h.2, (h1.own g h.1).2⟩
  · rcases h3 g hg with h | h
    · exact List.mem_append_left _ (x.sub g h)
    · exact List.mem_append_right _ (List.mem_filter.2 ⟨hg, by simpa using h⟩)
  · rcases h4 g hg with h5 | h5
    · exact x.tn g h5
    · exact ⟨fun hm => by have := hlt g (h.sub g hm); omega, fun hm => by have := hlt g (h.s1 g hm); omega, fun hm => by have := hlt g (h.s2 g hm); omega⟩
  · rcases h3 g hm with h5 | h5
    · exact x.ap1 g hg h5
    · have := hlt g (h.s1 g hg); omega
  · rcases h3 g hm with h5 | h5
    · exact x.ap2 g hg h5
    · have := hlt g (h.s2 g hg); omega
/-- A document that was made beside it. -/
theorem withX {p : Nat} {st : LDoc} {S : List Nat} {D : RLay} (h : KS w B b L sts ms A1 c1 A2 c2 wr K K0 ps) (hb : Below wr.heap.size wr w') (hx : RDocIs w' B S p st D) (hS : ∀ g ∈ S, g ∈ K0 ∨ wr.heap.size ≤ g) (ht : ∀ g ∈ D.turns p, wr.heap.size ≤ g) :
    ∃ K', KS w B b L sts ms A1 c1 A2 c2 w' K' K0 ps ∧ KX w' B A1 A2 K' K0 p st S D := by
  have hlt := h.log.lt
  refine ⟨K ++ S.filter (fun g => decide (wr.heap.size ≤ g)), h.move (h.log.go (T := []) (Only.of_below hb) (by simp) (fun g hg => ?_)) (T := []) (Only.of_below hb) (by simp) (fun g hg => List.mem_append_left _ hg), hx, fun g hg => ?_, fun g hg => ?_, fun g hg hm => ?_, fun g hg hm => ?_⟩
  · rcases List.mem_append.1 hg with h | h
    · exact .inl h
    · rw [List.mem_filter] at h
      exact .inr ⟨by simpa using h.2, (hx.own g h.1).2⟩
  · rcases hS g hg with h5 | h5
    · exact List.mem_append_left _ (h.sub g h5)
    · exact List.mem_append_right _ (List.mem_filter.2 ⟨hg, by simpa using h5⟩)
  · have h6 := ht g hg
    exact ⟨fun hm => by have := hlt g (h.sub g hm); omega, fun hm => by have := hlt g (h.s1 g hm); omega, fun hm => by have := hlt g (h.s2 g hm); omega⟩
  · rcases hS g hm with h5 | h5
    · exact h.ap1 g hg h5
    · have := hlt g (h.s1 g hg); omega
  · rcases hS g hm with h5 | h5
    · exact h.ap2 g hg h5
    · have := hlt g (h.s2 g hg); omega
/-- It is one of them now. -/
theorem push1 {p : Nat} {st : LDoc} {S : List Nat} {D : RLay} (h : KS w B b L sts ms A1 c1 A2 c2 wr K K0 ps) (x : KX wr B A1 A2 K K0 p st S D) (hd : Own w' B 41 1 A1' (ps.length + 1) c1' (pps ps ++ [.pointer (some ⟨p, 0, none⟩)])) (ho : Only (ob A1) wr w') (ha : ∀ g ∈ ob A1', g ∈ ob A1 ∨ wr.heap.size ≤ g) :
    ∃ K', KS w B b L (sts ++ [st]) ms A1' c1' A2 c2 w' K' (K0 ++ S) (ps ++ [p]) := by
  have hlt := h.log.lt
  have h12 : ∀ g ∈ ob A1, g ∉ ob A2 := fun g hg hm => by
    rcases h.done.2 with ⟨h1, _⟩ | ⟨g1, _, cur1, hv1, _, hb1, _⟩
    · injection h1 with h1; rw [h1] at hg; simp [ob] at hg
    · rcases h.mark.2 with ⟨h2, _⟩ | ⟨g2, _, cur2, hv2, _, hb2, _⟩
      · injection h2 with h2; rw [h2] at hm; simp [ob] at hm
      · injection hv1 with hv1; injection hv2 with hv2
        rw [hv1] at hg; rw [hv2] at hm
        simp [ob] at hg hm
        subst hg hm
        rw [hb1] at hb2
        simp at hb2
  have hlo : ∀ g ∈ ob A1, B ≤ g := fun g hg => (h.done.lt g hg).1
  have hlt' := hd.lt
  refine ⟨K ++ ob A1', ⟨h.log.go ho (fun g hg => ⟨h.s1 g hg, hlo g hg⟩) (fun g hg => ?_), fun g hg => ?_, fun g hg => List.mem_append_right _ hg, fun g hg => List.mem_append_left _ (h.s2 g hg), fun g hg hm => ?_, fun g hg hm => ?_, by simp [h.len], fun i q s hq hs => ?_, ?_, h.mark.only ho (fun g hg hm => h12 g hm hg)⟩⟩
  · rcases List.mem_append.1 hg with h5 | h5
    · exact .inl h5
    · rcases ha g h5 with h6 | h6
      · exact .inl (h.s1 g h6)
      · exact .inr ⟨h6, (hlt' g h5).2⟩
  · rcases List.mem_append.1 hg with h5 | h5
    · exact List.mem_append_left _ (h.sub g h5)
    · exact List.mem_append_left _ (x.sub g h5)
  · rcases List.mem_append.1 hm with h5 | h5
    · rcases ha g hg with h6 | h6
      · exact h.ap1 g h6 h5
      · have := hlt g (h.sub g h5); omega
    · rcases ha g hg with h6 | h6
      · exact x.ap1 g h6 h5
      · have := hlt g (x.sub g h5); omega
  · rcases List.mem_append.1 hm with h5 | h5
    · exact h.ap2 g hg h5
    · exact x.ap2 g hg h5
  · rcases Nat.lt_or_ge i ps.length with hi | hi
    · rw [List.getElem?_append_left hi] at hq
      rw [List.getElem?_append_left (by rw [← h.len]; exact hi)] at hs
      obtain ⟨S1, D1, k1, k2⟩ := h.docs i q s hq hs
      exact ⟨S1, D1, k1.only ho (fun g hg => ⟨hlo g hg, fun hm => h.ap1 g hg (k2 g hm)⟩), fun g hg => List.mem_append_left _ (k2 g hg)⟩
    · rw [List.getElem?_append_right hi] at hq
      rw [List.getElem?_append_right (by rw [← h.len]; exact hi), ← h.len] at hs
      match i - ps.length, hq, hs with
      | 0, hq, hs =>
        obtain rfl : p = q := by simpa using hq
        obtain rfl : st = s := by simpa using hs
        exact ⟨S, D, x.is.only ho (fun g hg => ⟨hlo g hg, x.ap1 g hg⟩), fun g hg => List.mem_append_right _ hg⟩
      | n + 1, hq, hs => simp at hq
  · have e : pps (ps ++ [p]) = pps ps ++ [.pointer (some ⟨p, 0, none⟩)] := by unfold pps; rw [List.map_append]; rfl
    rw [e, List.length_append]
    exact hd
/-- A number more. -/
theorem push2 {m : Int} (h : KS w B b L sts ms A1 c1 A2 c2 wr K K0 ps) (hd : Own w' B 3 1 A2' (ms.length + 1) c2' (ints ms ++ [.int .i64 m])) (ho : Only (ob A2) wr w') (ha : ∀ g ∈ ob A2', g ∈ ob A2 ∨ wr.heap.size ≤ g) :
    ∃ K', KS w B b L sts (ms ++ [m]) A1 c1 A2' c2' w' K' K0 ps := by
  have hlt := h.log.lt
  have h12 : ∀ g ∈ ob A1, g ∉ ob A2 := fun g hg hm => by
    rcases h.done.2 with ⟨h1, _⟩ | ⟨g1, _, cur1, hv1, _, hb1, _⟩
    · injection h1 with h1; rw [h1] at hg; simp [ob] at hg
    · rcases h.mark.2 with ⟨h2, _⟩ | ⟨g2, _, cur2, hv2, _, hb2, _⟩
      · injection h2 with h2; rw [h2] at hm; simp [ob] at hm
      · injection hv1 with hv1; injection hv2 with hv2
        rw [hv1] at hg; rw [hv2] at hm
        simp [ob] at hg hm
        subst hg hm
        rw [hb1] at hb2
        simp at hb2
  have hlo : ∀ g ∈ ob A2, B ≤ g := fun g hg => (h.mark.lt g hg).1
  have hlt' := hd.lt
  refine ⟨K ++ ob A2', ⟨h.log.go ho (fun g hg => ⟨h.s2 g hg, hlo g hg⟩) (fun g hg => ?_), fun g hg => List.mem_append_left _ (h.sub g hg), fun g hg => List.mem_append_left _ (h.s1 g hg), fun g hg => List.mem_append_right _ hg, h.ap1, fun g hg hm => ?_, h.len, fun i q s hq hs => ?_, h.done.only ho (fun g hg hm => h12 g hg hm), ?_⟩⟩
  · rcases List.mem_append.1 hg with h5 | h5
    · exact .inl h5
    · rcases ha g h5 with h6 | h6
      · exact .inl (h.s2 g h6)
      · exact .inr ⟨h6, (hlt' g h5).2⟩
  · rcases ha g hg with h6 | h6
    · exact h.ap2 g h6 hm
    · have := hlt g (h.sub g hm); omega
  · obtain ⟨S1, D1, k1, k2⟩ := h.docs i q s hq hs
    exact ⟨S1, D1, k1.only ho (fun g hg => ⟨hlo g hg, fun hm => h.ap2 g hg (k2 g hm)⟩), k2⟩
  · have e : ints (ms ++ [m]) = ints ms ++ [.int .i64 m] := by unfold ints; rw [List.map_append]; rfl
    rw [e, List.length_append]
    exact hd
/-- Only the first so many of them are left. -/
theorem cut {k : Nat} (h : KS w B b L sts ms A1 c1 A2 c2 wr K K0 ps) (hk : k ≤ ps.length) (h0 : 0 < k) (hm : ms.length = ps.length) : KS w B b L (sts.take k) (ms.take k) A1 c1 A2 c2 wr K K0 (ps.take k) where
  log := h.log
  sub := h.sub
  s1 := h.s1
  s2 := h.s2
  ap1 := h.ap1
  ap2 := h.ap2
  len := by simp [h.len]
  docs := fun i p st hp hs => by
    rcases Nat.lt_or_ge i k with hi | hi
    · rw [List.getElem?_take_of_lt hi] at hp hs
      exact h.docs i p st hp hs
    · rw [List.getElem?_eq_none (by rw [List.length_take]; omega)] at hp
      cases hp
  done := by
    have := h.done.take hk (by omega)
    rw [List.length_take, Nat.min_eq_left hk]
    unfold pps at *
    rw [List.map_take]
    simpa using this
  mark := by
    have := h.mark.take (k := k) (by omega) (by omega)
    rw [List.length_take, Nat.min_eq_left (by omega)]
    unfold ints at *
    rw [List.map_take]
    simpa using this
/-- At the beginning. -/
theorem init {w0 w1 : World} {e : Ending} (h : LK w B b L [] w0) (hn : RNewAt w0 e w1) (hb : Below w1.heap.size w1 wr) {g1 g2 : Nat} (hg1 : w1.heap.size ≤ g1) (hg2 : w1.heap.size ≤ g2)
    (b1 : Blk wr g1 41 #[.pointer (some ⟨w0.heap.size + 1, 0, none⟩)]) (b2 : Blk wr g2 3 #[.int .i64 0]) : ∃ K K0, KS w B b L [LDoc.new] [0] (some ⟨g1, 0, none⟩) 1 (some ⟨g2, 0, none⟩) 1 wr K K0 [w0.heap.size + 1] := by
  have hB : B ≤ w0.heap.size := h.2.2.2.1
  have hb0 : Below w0.heap.size w0 wr := hn.2.1.trans (hb.mono hn.2.1.size)
  have hz := hn.2.2.1
  have l1 := b1.lt
  have l2 := b2.lt
  refine ⟨[w0.heap.size, w0.heap.size + 1, g1, g2], [w0.heap.size, w0.heap.size + 1], ⟨h.go (T := []) (Only.of_below hb0) (by simp) (fun g hg => ?_), fun g hg => ?_, fun g hg => ?_, fun g hg => ?_, fun g hg => ?_, fun g hg => ?_, rfl, fun i q s hq hs => ?_, ?_, ?_⟩⟩
  · simp at hg
    rcases hg with rfl | rfl | rfl | rfl <;> exact .inr ⟨by omega, by omega⟩
  · simp at hg ⊢; omega
  · simp [ob] at hg; simp [hg]
  · simp [ob] at hg; simp [hg]
  · simp [ob] at hg; simp; omega
  · simp [ob] at hg; simp; omega
  · match i, hq, hs with
    | 0, hq, hs =>
      obtain rfl : w0.heap.size + 1 = q := by simpa using hq
      obtain rfl : LDoc.new = s := by simpa using hs
      exact ⟨_, _, (hn.is hB).below hb, fun g hg => hg⟩
    | n + 1, hq, hs => simp at hq
  · exact ⟨rfl, .inr ⟨g1, 1, _, rfl, by omega, b1, Nat.le_refl _, by decide, rfl, rfl⟩⟩
  · exact ⟨rfl, .inr ⟨g2, 1, _, rfl, by omega, b2, Nat.le_refl _, by decide, rfl, rfl⟩⟩
end KS
end Go.Proofs.YthfbjfocmnikaaaGreatDoor

/- 4 texts in one: each says ahead of itself what is proved, and its conditions. -/
import Derived.Deep.RegionHeld3
import Derived.Test.YtlcjgldlblpboaaDoorDotCheck
import Derived.Test.YtlcjgldlblpboaaDoorOpEnc
import Derived.Test.YtlcjgldlblpboaaDoorPlaceCheck
/- dot.Vector, dot.ready, dot.Has, dot.Add, walked. Conditions: stated with each. -/
namespace Go.Proofs.YtlcjgldlblpboaaDoor
open Go.RowKit
set_option linter.unusedVariables false

def ints (l : List Int) : List Value := l.map fun n => .int .i64 n
theorem ints_len (l : List Int) : (ints l).length = l.length := by simp [ints]
theorem ints_at {l : List Int} {k : Nat} (h : k < l.length) : (ints l)[k]? = some (.int .i64 l[k]) := by simp [ints, h]
theorem oneCells_ints (l : List Int) : OneCells (ints l) := by
  intro u hu
  simp only [ints, List.mem_map] at hu
  obtain ⟨n, _, rfl⟩ := hu
  rfl
theorem Reads.int {w : World} {B : Nat} {A : Option Addr} {l : List Int} (h : Reads w B 1 A l.length (ints l)) {k : Nat} (hk : k < l.length) : ∃ ad, A = some ad ∧ ad.block < B ∧ w.cell? (ad.add k) = some (.int .i64 l[k]) := by
  obtain ⟨ad, e, hb, hc⟩ := h.2 (by omega)
  exact ⟨ad, e, hb, hc _ _ (ints_at hk)⟩
def badN (n : Int) : Bool := decide (n < 0) || decide (9999 < n)
def vecErr (l : List Int) : Int := if l.length ≠ 8 then 3 else if l.any badN then 1 else 0
theorem vec_ok {l : List Int} (h : vecErr l = 0) : l.length = 8 ∧ ∀ n ∈ l, 0 ≤ n ∧ n ≤ 9999 := by
  unfold vecErr at h
  by_cases h1 : l.length ≠ 8
  · rw [if_pos h1] at h; omega
  · rw [if_neg h1] at h
    by_cases h2 : l.any badN = true
    · rw [if_pos h2] at h; omega
    · refine ⟨by omega, fun n hn => ?_⟩
      have h3 : badN n = false := by
        cases hb : badN n
        · rfl
        · exact absurd (List.any_eq_true.2 ⟨n, hn, hb⟩) h2
      simp [badN] at h3
      omega

def FoundPost (w : World) (l : List Int) (e : Ending) (w' : World) : Prop := ∃ k : Int, e = .returned (.int .i64 k) ∧ (decide (0 ≤ k) = l.any badN) ∧ -1 ≤ k ∧ k ≤ l.length ∧ w' = w
/-- What is wrong with a vector and a dot. -/
def vdErr (l : List Int) (d : LDot) : Int := if vecErr l ≠ 0 then vecErr l else dotErr d
end Go.Proofs.YtlcjgldlblpboaaDoor
/- dot.Has, dot.Add, walked. Conditions: stated with each. -/
namespace Go.Proofs.YtlcjgldlblpboaaDoor
open Go.RowKit
set_option linter.unusedVariables false

theorem elemI : Elem Tryd.prog 107 3 1 8 := Elem.mk_ (z := .int .i64 0) Tryd.underlying107 (by kernel_rfl) rfl (by decide)
theorem vd_ok {l : List Int} {d : LDot} (h : vdErr l d = 0) : vecErr l = 0 ∧ dotErr d = 0 := by
  unfold vdErr at h
  by_cases h1 : vecErr l ≠ 0
  · rw [if_pos h1] at h; exact absurd h h1
  · rw [if_neg h1] at h; exact ⟨by omega, h⟩
theorem dot_in {d : LDot} (h : dotErr d = 0) : ∃ k : Nat, k < 8 ∧ d.who = (k : Int) + 1 ∧ 1 ≤ d.n ∧ d.n ≤ 9999 := by
  unfold dotErr at h
  split at h
  · rename_i hh; exact ⟨(d.who - 1).toNat, by omega, by omega, hh.2.2⟩
  · omega
/-- The number that a vector has of a dot's author. -/
def nOf (l : List Int) (d : LDot) : Int := l.getD (d.who - 1).toNat 0
theorem nOf_at {l : List Int} {k : Nat} {n : Int} (h : k < l.length) : nOf l ⟨(k : Int) + 1, n⟩ = l[k] := by
  unfold nOf
  simp only
  rw [show ((k : Int) + 1 - 1).toNat = k by omega]
  simp [List.getD, List.getElem?_eq_getElem h]
def hasRes (l : List Int) (d : LDot) : Bool := decide (vdErr l d = 0) && decide (d.n ≤ nOf l d)
def HasPost (w : World) (l : List Int) (d : LDot) (e : Ending) (w' : World) : Prop := e = .returned (.tuple #[.bool (hasRes l d), errV (vdErr l d)]) ∧ Below w.heap.size w w'
def addErr (l : List Int) (d : LDot) : Int := if vdErr l d ≠ 0 then vdErr l d else if d.n ≤ nOf l d then 7 else if nOf l d < d.n - 1 then 6 else 0
def addRes (l : List Int) (d : LDot) : List Int := l.set (d.who - 1).toNat d.n
def AddPost (w : World) (l : List Int) (d : LDot) (e : Ending) (w' : World) : Prop :=
  if addErr l d = 0 then ∃ V c, e = .returned (.tuple #[.slice V l.length c, .nilIface]) ∧ Own w' w.heap.size 3 1 V l.length c (ints (addRes l d)) ∧ Below w.heap.size w w'
  else e = .returned (.tuple #[.slice none 0 0, errV (addErr l d)]) ∧ Below w.heap.size w w'
theorem Own.store {w : World} {B : Nat} {e : TypeId} {g n c : Nat} {xs : List Value} (h : Own w B e 1 (some ⟨g, 0, none⟩) n c xs) {k : Nat} (hk : k < n) (u : Value) : Own (w.setCell ⟨g, k, none⟩ u) B e 1 (some ⟨g, 0, none⟩) n c (xs.set k u) := by
  obtain ⟨h1, h2⟩ := h
  refine ⟨by rw [List.length_set]; exact h1, ?_⟩
  rcases h2 with ⟨h2, _⟩ | ⟨g', cap, cur, e1, e2, e3, e4, e5, e6, e7⟩
  · cases h2
  · injection e1 with e1 _ ec
    injection e1 with e1
    injection e1 with e1
    subst e1 ec
    refine .inr ⟨g, c, cur.setIfInBounds k u, rfl, e2, Blk.set_ (t := e) e3 k u, e4, e5, by simpa using e6, ?_⟩
    rw [Array.toList_setIfInBounds, ← e7, List.take_set]
theorem ints_set (l : List Int) (k : Nat) (n : Int) : (ints l).set k (.int .i64 n) = ints (l.set k n) := by simp [ints, List.map_set]

end Go.Proofs.YtlcjgldlblpboaaDoor
/- A right place is short; a store into an owned row. Plain. Conditions: none. -/
namespace Go.Proofs.YtlcjgldlblpboaaDoor
open Go.RowKit
set_option linter.unusedVariables false
theorem place_small {p : ByteArray} (h : placeErr p = 0) : p.size ≤ 12 := by
  unfold placeErr at h
  by_cases h1 : 12 < p.size
  · rw [if_pos h1] at h; omega
  · omega
theorem Own.storeN {w : World} {B : Nat} {e : TypeId} {g n c size : Nat} {xs : List Value} (h : Own w B e size (some ⟨g, 0, none⟩) n c xs) {k : Nat} (hk : k < n * size) (u : Value) : Own (w.setCell ⟨g, k, none⟩ u) B e size (some ⟨g, 0, none⟩) n c (xs.set k u) := by
  obtain ⟨h1, h2⟩ := h
  refine ⟨by rw [List.length_set]; exact h1, ?_⟩
  rcases h2 with ⟨h2, _⟩ | ⟨g', cap, cur, e1, e2, e3, e4, e5, e6, e7⟩
  · cases h2
  · injection e1 with e1 _ ec
    injection e1 with e1
    injection e1 with e1
    subst e1 ec
    refine .inr ⟨g, c, cur.setIfInBounds k u, rfl, e2, Blk.set_ (t := e) e3 k u, e4, e5, by simpa using e6, ?_⟩
    rw [Array.toList_setIfInBounds, ← e7, List.take_set]
def zeros8 : Array Value := #[.int .i64 0, .int .i64 0, .int .i64 0, .int .i64 0, .int .i64 0, .int .i64 0, .int .i64 0, .int .i64 0]
end Go.Proofs.YtlcjgldlblpboaaDoor
/- Bytes read as an op: plain. Conditions: none. -/
namespace Go.Proofs.YtlcjgldlblpboaaDoor
open Go.RowKit
set_option linter.unusedVariables false
/-- Dots that are read, so many. -/
def rdDots : Nat → List UInt8 → Option (List LDot × List UInt8)
  | 0, s => some ([], s)
  | n + 1, a :: b :: c :: t => (rdDots n t).map fun r => (⟨(a.toNat : Int), ((b.toNat * 256 + c.toNat : Nat) : Int)⟩ :: r.1, r.2)
  | _ + 1, _ => none
/-- What comes behind the place. -/
def rdTail (dot : LDot) (what : Nat) (p : ByteArray) (s : List UInt8) : Option (LOp × List UInt8) :=
  if what = 1 then (match s with
    | [] => none
    | x :: t => some (⟨dot, 1, p, (x.toNat : Int), []⟩, t))
  else if what = 4 then (match s with
    | [] => none
    | x :: t => (rdDots x.toNat t).map fun r => (⟨dot, 4, p, 0, r.1⟩, r.2))
  else some (⟨dot, (what : Int), p, 0, []⟩, s)
/-- An op that is read. -/
def rdOp : List UInt8 → Option (LOp × List UInt8)
  | a :: b :: c :: d :: e :: t => if t.length < e.toNat then none else rdTail ⟨(b.toNat : Int), ((c.toNat * 256 + d.toNat : Nat) : Int)⟩ a.toNat (strOf (t.take e.toNat)) (t.drop e.toNat)
  | _ => none
theorem u8_nat {n : Int} (h0 : 0 ≤ n) (h1 : n ≤ 255) : (u8 n).toNat = n.toNat := by have := u8_val h0 h1; omega
theorem rdDots_bytes (ds : List LDot) (t : List UInt8) (h : ∀ d ∈ ds, 0 ≤ d.who ∧ d.who ≤ 255 ∧ 0 ≤ d.n ∧ d.n ≤ 65535) : rdDots ds.length (ds.flatMap dotBytes ++ t) = some (ds, t) := by
  induction ds with
  | nil => rfl
  | cons d ds ih =>
    obtain ⟨h1, h2, h3, h4⟩ := h d (by simp)
    have ih := ih (fun x hx => h x (by simp [hx]))
    rw [List.flatMap_cons]
    show rdDots (ds.length + 1) (u8 d.who :: u8 (d.n / 256) :: u8 (d.n % 256) :: (ds.flatMap dotBytes ++ t)) = _
    rw [rdDots, ih, u8_nat h1 h2, u8_nat (by omega) (by omega), u8_nat (by omega) (by omega)]
    obtain ⟨dw, dn⟩ := d
    simp only [Option.map_some, Option.some.injEq, Prod.mk.injEq, List.cons.injEq, LDot.mk.injEq, and_true]
    simp only at h1 h2 h3 h4
    omega
theorem rise_in {l : List LDot} (h : riseErr l = 0) : ∀ d ∈ l, dotErr d = 0 := by
  unfold riseErr at h
  split at h
  · rename_i hh
    rw [List.all_eq_true] at hh
    intro d hd
    simpa using hh d hd
  · cases h
theorem rdOp_bytes {o : LOp} (h : o.Ok) (t : List UInt8) : rdOp (opHead o ++ opTail o ++ t) = some (o, t) := by
  have hw := h.who
  have hn := h.n
  have ha := h.what
  have hps := place_small h.place
  have hpl : o.place.data.toList.length = o.place.size := by rw [Array.length_toList]; rfl
  unfold opHead
  rw [List.append_assoc, List.append_assoc]
  show rdOp (u8 o.what :: u8 o.dot.who :: u8 (o.dot.n / 256) :: u8 (o.dot.n % 256) :: u8 (o.place.size : Int) :: (o.place.data.toList ++ (opTail o ++ t))) = _
  have e5 : (u8 (o.place.size : Int)).toNat = o.place.size := by rw [u8_nat (by omega) (by omega)]; omega
  rw [rdOp, e5, if_neg (by rw [List.length_append, hpl]; omega), List.take_append_of_le_length (by omega), List.take_of_length_le (by omega), List.drop_append_of_le_length (by omega), List.drop_of_length_le (by omega), List.nil_append]
  rw [u8_nat (n := o.what) (by omega) (by omega), u8_nat (n := o.dot.who) (by omega) (by omega), u8_nat (n := o.dot.n / 256) (by omega) (by omega), u8_nat (n := o.dot.n % 256) (by omega) (by omega)]
  have edot : (⟨((o.dot.who.toNat : Nat) : Int), (((o.dot.n / 256).toNat * 256 + (o.dot.n % 256).toNat : Nat) : Int)⟩ : LDot) = o.dot := by
    obtain ⟨⟨w, n⟩, _⟩ := o
    simp only [LDot.mk.injEq]
    simp only at hw hn
    omega
  have epl : strOf o.place.data.toList = o.place := by apply ByteArray.ext; simp [strOf]
  rw [edot, epl]
  unfold rdTail opTail
  obtain ⟨dot, what, place, letter, seen⟩ := o
  simp only at ha hw hn ⊢
  have hl := h.letter
  have hno := h.none_
  have hsn := h.seen
  have hfw := h.few
  simp only at hl hno hsn hfw
  by_cases h1 : what = 1
  · subst h1
    have hl2 := hl rfl
    obtain rfl : seen = [] := hsn (by decide)
    rw [if_pos (by decide), if_pos rfl]
    show some _ = _
    have e : (((u8 letter).toNat : Nat) : Int) = letter := u8_val (by omega) (by omega)
    rw [e]
    rfl
  · obtain rfl : letter = 0 := hno h1
    rw [if_neg (by omega), if_neg h1]
    by_cases h4 : what = 4
    · subst h4
      rw [if_pos (by decide), if_pos rfl]
      show (rdDots (u8 (seen.length : Int)).toNat (seen.flatMap dotBytes ++ t)).map _ = _
      rw [u8_nat (by omega) (by omega), show ((seen.length : Int)).toNat = seen.length by omega, rdDots_bytes seen t (fun d hd => by
        have := dotErr_ok (rise_in h.rise d hd)
        omega)]
      rfl
    · obtain rfl : seen = [] := hsn h4
      rw [if_neg (by omega), if_neg h4]
      show some _ = _
      rw [show ((what.toNat : Nat) : Int) = what by omega]
      rfl
/-- The op that bytes are. -/
def decOf (b : ByteArray) : Option LOp := match rdOp b.data.toList with
  | none => none
  | some r => if opErr r.1 = 0 ∧ opBytes r.1 = b.data.toList then some r.1 else none
theorem dec_some {b : ByteArray} {o : LOp} (h : decOf b = some o) : opErr o = 0 ∧ opBytes o = b.data.toList := by
  unfold decOf at h
  split at h
  · cases h
  · split at h
    · rename_i hh
      injection h with h
      subst h
      exact hh
    · cases h
theorem dec_enc {o : LOp} (h : opErr o = 0) : decOf (strOf (opBytes o)) = some o := by
  unfold decOf
  have e : (strOf (opBytes o)).data.toList = opBytes o := rfl
  have e2 := rdOp_bytes (opOk_of h) [u8 ((sumB (opHead o ++ opTail o) : Int) % 253)]
  rw [e]
  have e3 : rdOp (opBytes o) = some (o, [u8 ((sumB (opHead o ++ opTail o) : Int) % 253)]) := e2
  rw [e3]
  exact if_pos ⟨h, rfl⟩
end Go.Proofs.YtlcjgldlblpboaaDoor

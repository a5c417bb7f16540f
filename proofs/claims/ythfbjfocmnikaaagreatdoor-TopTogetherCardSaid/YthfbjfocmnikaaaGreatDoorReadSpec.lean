/- Bytes read as an op: plain. Conditions: none. -/
import Derived.Test.YthfbjfocmnikaaaGreatDoorOpEnc
import Derived.Test.YthfbjfocmnikaaaGreatDoorSmall
namespace Go.Proofs.YthfbjfocmnikaaaGreatDoor
open Go.RowKit
set_option linter.unusedVariables false
/-- Dots that are read, so many. -/
def rdDots : Nat → List UInt8 → Option (List LDot × List UInt8)
  | 0, s => some ([], s)
  | n + 1, a :: b :: c :: t => (rdDots n t).map fun r => (⟨(a.toNat : Int), ((b.toNat * 256 + c.toNat : Nat) : Int)⟩ :: r.1, r.2)
  | _ + 1, _ => none
/-- What comes behind the place. -/
def rdTail (dot : LDot) (what : Nat) (p : ByteArray) (s : List UInt8) : Option (LOp × List UInt8) :=
  if what = 1 then (match s with
    | [] => none
    | x :: t => some (⟨dot, 1, p, (x.toNat : Int), []⟩, t))
  else if what = 4 then (match s with
    | [] => none
    | x :: t => (rdDots x.toNat t).map fun r => (⟨dot, 4, p, 0, r.1⟩, r.2))
  else some (⟨dot, (what : Int), p, 0, []⟩, s)
/-- An op that is read. -/
def rdOp : List UInt8 → Option (LOp × List UInt8)
  | a :: b :: c :: d :: e :: t => if t.length < e.toNat then none else rdTail ⟨(b.toNat : Int), ((c.toNat * 256 + d.toNat : Nat) : Int)⟩ a.toNat (strOf (t.take e.toNat)) (t.drop e.toNat)
  | _ => none
theorem u8_nat {n : Int} (h0 : 0 ≤ n) (h1 : n ≤ 255) : (u8 n).toNat = n.toNat := by have := u8_val h0 h1; omega
theorem rdDots_bytes (ds : List LDot) (t : List UInt8) (h : ∀ d ∈ ds, 0 ≤ d.who ∧ d.who ≤ 255 ∧ 0 ≤ d.n ∧ d.n ≤ 65535) : rdDots ds.length (ds.flatMap dotBytes ++ t) = some (ds, t) := by
  induction ds with
  | nil => rfl
  | cons d ds ih =>
    obtain ⟨h1, h2, h3, h4⟩ := h d (by simp)
    have ih := ih (fun x hx => h x (by simp [hx]))
    rw [List.flatMap_cons]
    show rdDots (ds.length + 1) (u8 d.who :: u8 (d.n / 256) :: u8 (d.n % 256) :: (ds.flatMap dotBytes ++ t)) = _
    rw [rdDots, ih, u8_nat h1 h2, u8_nat (by omega) (by omega), u8_nat (by omega) (by omega)]
    obtain ⟨dw, dn⟩ := d
    simp only [Option.map_some, Option.some.injEq, Prod.mk.injEq, List.cons.injEq, LDot.mk.injEq, and_true]
    simp only at h1 h2 h3 h4
    omega
theorem rise_in {l : List LDot} (h : riseErr l = 0) : ∀ d ∈ l, dotErr d = 0 := by
  unfold riseErr at h
  split at h
  · rename_i hh
    rw [List.all_eq_true] at hh
    intro d hd
    simpa using hh d hd
  · cases h
theorem rdOp_bytes {o : LOp} (h : o.Ok) (t : List UInt8) : rdOp (opHead o ++ opTail o ++ t) = some (o, t) := by
  have hw := h.who
  have hn := h.n
  have ha := h.what
  have hps := place_small h.place
  have hpl : o.place.data.toList.length = o.place.size := by rw [Array.length_toList]; rfl
  unfold opHead
  rw [List.append_assoc, List.append_assoc]
  show rdOp (u8 o.what :: u8 o.dot.who :: u8 (o.dot.n / 256) :: u8 (o.dot.n % 256) :: u8 (o.place.size : Int) :: (o.place.data.toList ++ (opTail o ++ t))) = _
  have e5 : (u8 (o.place.size : Int)).toNat = o.place.size := by rw [u8_nat (by omega) (by omega)]; omega
  rw [rdOp, e5, if_neg (by rw [List.length_append, hpl]; omega), List.take_append_of_le_length (by omega), List.take_of_length_le (by omega), List.drop_append_of_le_length (by omega), List.drop_of_length_le (by omega), List.nil_append]
  rw [u8_nat (n := o.what) (by omega) (by omega), u8_nat (n := o.dot.who) (by omega) (by omega), u8_nat (n := o.dot.n / 256) (by omega) (by omega), u8_nat (n := o.dot.n % 256) (by omega) (by omega)]
  have edot : (⟨((o.dot.who.toNat : Nat) : Int), (((o.dot.n / 256).toNat * 256 + (o.dot.n % 256).toNat : Nat) : Int)⟩ : LDot) = o.dot := by
    obtain ⟨⟨w, n⟩, _⟩ := o
    simp only [LDot.mk.injEq]
    simp only at hw hn
    omega
  have epl : strOf o.place.data.toList = o.place := by apply ByteArray.ext; simp [strOf]
  rw [edot, epl]
  unfold rdTail opTail
  obtain ⟨dot, what, place, letter, seen⟩ := o
  simp only at ha hw hn ⊢
  have hl := h.letter
  have hno := h.none_
  have hsn := h.seen
  have hfw := h.few
  simp only at hl hno hsn hfw
  by_cases h1 : what = 1
  · subst h1
    have hl2 := hl rfl
    obtain rfl : seen = [] := hsn (by decide)
    rw [if_pos (by decide), if_pos rfl]
    show some _ = _
    have e : (((u8 letter).toNat : Nat) : Int) = letter := u8_val (by omega) (by omega)
    rw [e]
    rfl
  · obtain rfl : letter = 0 := hno h1
    rw [if_neg (by omega), if_neg h1]
    by_cases h4 : what = 4
    · subst h4
      rw [if_pos (by decide), if_pos rfl]
      show (rdDots (u8 (seen.length : Int)).toNat (seen.flatMap dotBytes ++ t)).map _ = _
      rw [u8_nat (by omega) (by omega), show ((seen.length : Int)).toNat = seen.length by omega, rdDots_bytes seen t (fun d hd => by
        have := dotErr_ok (rise_in h.rise d hd)
        omega)]
      rfl
    · obtain rfl : seen = [] := hsn h4
      rw [if_neg (by omega), if_neg h4]
      show some _ = _
      rw [show ((what.toNat : Nat) : Int) = what by omega]
      rfl
/-- The op that bytes are. -/
def decOf (b : ByteArray) : Option LOp := match rdOp b.data.toList with
  | none => none
  | some r => if opErr r.1 = 0 ∧ opBytes r.1 = b.data.toList then some r.1 else none
theorem dec_some {b : ByteArray} {o : LOp} (h : decOf b = some o) : opErr o = 0 ∧ opBytes o = b.data.toList := by
  unfold decOf at h
  split at h
  · cases h
  · split at h
    · rename_i hh
      injection h with h
      subst h
      exact hh
    · cases h
theorem dec_enc {o : LOp} (h : opErr o = 0) : decOf (strOf (opBytes o)) = some o := by
  unfold decOf
  have e : (strOf (opBytes o)).data.toList = opBytes o := rfl
  have e2 := rdOp_bytes (opOk_of h) [u8 ((sumB (opHead o ++ opTail o) : Int) % 253)]
  rw [e]
  have e3 : rdOp (opBytes o) = some (o, [u8 ((sumB (opHead o ++ opTail o) : Int) % 253)]) := e2
  rw [e3]
  exact if_pos ⟨h, rfl⟩
end Go.Proofs.YthfbjfocmnikaaaGreatDoor

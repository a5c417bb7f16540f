/- Bytes read as an op, as the document reads them: it guesses, then writes what it guessed. Plain. Conditions: none. -/
import Derived.Test.YtlcjgldlblpboaaDoorPackLaw
import Derived.Test.YtlcjgldlblpboaaDoorReadSpec
namespace Go.Proofs.YtlcjgldlblpboaaDoor
open Go.RowKit
set_option linter.unusedVariables false
/-- Dots as far as there are bytes for them. -/
def gdDots : Nat → List UInt8 → List LDot
  | n + 1, a :: b :: c :: t => ⟨(a.toNat : Int), ((b.toNat * 256 + c.toNat : Nat) : Int)⟩ :: gdDots n t
  | _, _ => []
theorem gdDots_zero (t : List UInt8) : gdDots 0 t = [] := by unfold gdDots; rfl
theorem gdDots_succ : ∀ (i : Nat) (t : List UInt8) (h : 3 * i + 2 < t.length), gdDots (i + 1) t = gdDots i t ++ [⟨(t[3 * i].toNat : Int), ((t[3 * i + 1].toNat * 256 + t[3 * i + 2].toNat : Nat) : Int)⟩]
  | 0, a :: b :: c :: t => fun _ => by rw [gdDots, gdDots_zero]; simp [gdDots_zero]
  | i + 1, a :: b :: c :: t => fun h => by
    simp only [List.length_cons] at h
    have ih := gdDots_succ i t (by omega)
    rw [gdDots, ih]
    conv => rhs; rw [gdDots]
    simp only [List.cons_append, List.cons.injEq, true_and]
    simp only [show 3 * (i + 1) = 3 * i + 3 by omega, show 3 * i + 3 + 1 = 3 * i + 1 + 3 by omega, show 3 * i + 3 + 2 = 3 * i + 2 + 3 by omega, List.getElem_cons_succ]
  | 0, [] => fun h => by simp at h
  | 0, [_] => fun h => by simp at h
  | 0, [_, _] => fun h => by simp at h
  | i + 1, [] => fun h => by simp at h
  | i + 1, [_] => fun h => by simp only [List.length_cons, List.length_nil] at h; omega
  | i + 1, [_, _] => fun h => by simp only [List.length_cons, List.length_nil] at h; omega
theorem gdDots_short : ∀ (i n : Nat) (t : List UInt8), i ≤ n → t.length < 3 * i + 3 → gdDots n t = gdDots i t
  | 0, 0, t => fun _ _ => rfl
  | 0, n + 1, [] => fun _ _ => by simp [gdDots]
  | 0, n + 1, [_] => fun _ _ => by simp [gdDots]
  | 0, n + 1, [_, _] => fun _ _ => by simp [gdDots]
  | 0, n + 1, _ :: _ :: _ :: t => fun _ h => by simp at h; omega
  | i + 1, 0, t => fun h _ => by omega
  | i + 1, n + 1, [] => fun _ _ => by simp [gdDots]
  | i + 1, n + 1, [_] => fun _ _ => by simp [gdDots]
  | i + 1, n + 1, [_, _] => fun _ _ => by simp [gdDots]
  | i + 1, n + 1, a :: b :: c :: t => fun h1 h2 => by
    simp only [List.length_cons] at h2
    rw [gdDots, gdDots, gdDots_short i n t (by omega) (by omega)]
theorem gdDots_len : ∀ (n : Nat) (t : List UInt8), (gdDots n t).length ≤ n
  | 0, t => by rw [gdDots_zero]; simp
  | n + 1, [] => by simp [gdDots]
  | n + 1, [_] => by simp [gdDots]
  | n + 1, [_, _] => by simp [gdDots]
  | n + 1, a :: b :: c :: t => by have := gdDots_len n t; rw [gdDots, List.length_cons]; omega
theorem gdDots_full : ∀ (i : Nat) (t : List UInt8), 3 * i ≤ t.length → (gdDots i t).length = i
  | 0, t => fun _ => by rw [gdDots_zero]; rfl
  | i + 1, a :: b :: c :: t => fun h => by
    simp only [List.length_cons] at h
    have := gdDots_full i t (by omega)
    rw [gdDots, List.length_cons, this]
  | i + 1, [] => fun h => by simp at h
  | i + 1, [_] => fun h => by simp only [List.length_cons, List.length_nil] at h; omega
  | i + 1, [_, _] => fun h => by simp only [List.length_cons, List.length_nil] at h; omega
theorem gdDots_rd : ∀ (n : Nat) (t : List UInt8) (r : List LDot × List UInt8), rdDots n t = some r → gdDots n t = r.1
  | 0, t, r => fun h => by rw [rdDots] at h; injection h with h; subst h; rw [gdDots_zero]
  | n + 1, [], r => fun h => by simp [rdDots] at h
  | n + 1, [_], r => fun h => by simp [rdDots] at h
  | n + 1, [_, _], r => fun h => by simp [rdDots] at h
  | n + 1, a :: b :: c :: t, r => fun h => by
    rw [rdDots] at h
    cases hr : rdDots n t with
    | none => rw [hr] at h; cases h
    | some q =>
      rw [hr] at h
      injection h with h
      subst h
      rw [gdDots, gdDots_rd n t q hr]
/-- What comes behind the place: a letter, or dots. -/
def gdLetter (what : Nat) (s : List UInt8) : Int := if what = 1 then (match s with | [] => 0 | x :: _ => (x.toNat : Int)) else 0
def gdSeen (what : Nat) (s : List UInt8) : List LDot := if what = 4 then (match s with | [] => [] | x :: t => gdDots x.toNat t) else []
/-- The op that is guessed. -/
def gdOp (a b c d e : UInt8) (t : List UInt8) : LOp :=
  ⟨⟨(b.toNat : Int), ((c.toNat * 256 + d.toNat : Nat) : Int)⟩, (a.toNat : Int), strOf (t.take e.toNat), gdLetter a.toNat (t.drop e.toNat), gdSeen a.toNat (t.drop e.toNat)⟩
theorem gdOp_rd {a b c d e : UInt8} {t : List UInt8} {r : LOp × List UInt8} (h : rdOp (a :: b :: c :: d :: e :: t) = some r) : gdOp a b c d e t = r.1 ∧ e.toNat ≤ t.length := by
  rw [rdOp] at h
  by_cases h1 : t.length < e.toNat
  · rw [if_pos h1] at h; cases h
  rw [if_neg h1] at h
  refine ⟨?_, by omega⟩
  unfold gdOp
  unfold rdTail at h
  generalize t.drop e.toNat = s at *
  generalize strOf (t.take e.toNat) = p at *
  by_cases h2 : a.toNat = 1
  · rw [if_pos h2] at h
    cases s with
    | nil => cases h
    | cons x s =>
      injection h with h
      subst h
      simp [gdLetter, gdSeen, h2]
  · rw [if_neg h2] at h
    by_cases h4 : a.toNat = 4
    · rw [if_pos h4] at h
      cases s with
      | nil => cases h
      | cons x s =>
        simp only at h
        cases hr : rdDots x.toNat s with
        | none => rw [hr] at h; cases h
        | some q =>
          rw [hr] at h
          injection h with h
          subst h
          simp [gdLetter, gdSeen, h4, gdDots_rd _ _ _ hr]
    · rw [if_neg h4] at h
      injection h with h
      subst h
      simp [gdLetter, gdSeen, h2, h4]
theorem decOf_short {s : ByteArray} (h : s.data.toList.length < 5) : decOf s = none := by
  unfold decOf
  have : rdOp s.data.toList = none := by
    generalize s.data.toList = l at h
    match l, h with
    | [], _ => rfl
    | [_], _ => rfl
    | [_, _], _ => rfl
    | [_, _, _], _ => rfl
    | [_, _, _, _], _ => rfl
  rw [this]
theorem decOf_far {s : ByteArray} {a b c d e : UInt8} {t : List UInt8} (hs : s.data.toList = a :: b :: c :: d :: e :: t) (h : t.length < e.toNat) : decOf s = none := by
  unfold decOf
  rw [hs, rdOp, if_pos h]
/-- To guess and to write it is to read. -/
theorem decOf_guess {s : ByteArray} {a b c d e : UInt8} {t : List UInt8} (hs : s.data.toList = a :: b :: c :: d :: e :: t) (h : e.toNat ≤ t.length) :
    decOf s = if opErr (gdOp a b c d e t) = 0 ∧ opBytes (gdOp a b c d e t) = s.data.toList then some (gdOp a b c d e t) else none := by
  by_cases hh : opErr (gdOp a b c d e t) = 0 ∧ opBytes (gdOp a b c d e t) = s.data.toList
  · rw [if_pos hh]
    have := dec_enc hh.1
    rw [hh.2] at this
    exact this
  · rw [if_neg hh]
    cases hd : decOf s with
    | none => rfl
    | some o =>
      obtain ⟨h1, h2⟩ := dec_some hd
      have h3 := rdOp_bytes (opOk_of h1) [u8 ((sumB (opHead o ++ opTail o) : Int) % 253)]
      have h4 : rdOp s.data.toList = some (o, [u8 ((sumB (opHead o ++ opTail o) : Int) % 253)]) := by rw [← h2]; exact h3
      rw [hs] at h4
      obtain ⟨h5, _⟩ := gdOp_rd h4
      rw [h5] at hh
      exact absurd ⟨h1, h2⟩ hh
end Go.Proofs.YtlcjgldlblpboaaDoor

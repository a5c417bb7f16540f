/- Parcels, as plain laws: what is packed is unpacked; what is unpacked is packed so. Conditions: none of our own. -/
import Derived.Test.YtnmmnejoldbeiaaGreatDoorPack
import Derived.Test.YtnmmnejoldbeiaaGreatDoorUnpack
namespace Go.Proofs.YtnmmnejoldbeiaaGreatDoor
open Go.RowKit
set_option linter.unusedVariables false
theorem twoB_nat {n : Nat} (h : n ≤ 65535) : ∃ c d : UInt8, twoB n = [c, d] ∧ c.toNat * 256 + d.toNat = n := by
  refine ⟨_, _, rfl, ?_⟩
  have h1 := u8_val (show (0 : Int) ≤ (n : Int) / 256 by omega) (show (n : Int) / 256 ≤ 255 by omega)
  have h2 := u8_val (show (0 : Int) ≤ (n : Int) % 256 by omega) (show (n : Int) % 256 ≤ 255 by omega)
  omega
theorem twoB_of (c d : UInt8) : twoB (c.toNat * 256 + d.toNat) = [c, d] := by
  have hc := UInt8.toNat_lt c
  have hd := UInt8.toNat_lt d
  unfold twoB u8
  have e1 : (((c.toNat * 256 + d.toNat : Nat) : Int) / 256).toNat = c.toNat := by omega
  have e2 : (((c.toNat * 256 + d.toNat : Nat) : Int) % 256).toNat = d.toNat := by omega
  rw [e1, e2]
  simp
theorem unpackN_pack {l : List LOp} (h : opsErr l = 0) : unpackN l.length (packBody l) = some l := by
  induction l with
  | nil => rfl
  | cons a l ih =>
    unfold opsErr at h
    by_cases ha : opErr a = 0
    · rw [if_pos ha] at h
      have h2 := opBytes_len ha
      obtain ⟨c, d, e1, e2⟩ := twoB_nat (n := (opBytes a).length) (by omega)
      have e : packBody (a :: l) = c :: d :: (opBytes a ++ packBody l) := by
        unfold packBody
        rw [List.flatMap_cons, e1]
        simp
      rw [e, List.length_cons, unpackN, e2, if_neg (by rw [List.length_append]; omega), List.take_left' rfl, List.drop_left' rfl, dec_enc ha, ih h]
      rfl
    · rw [if_neg ha] at h; exact absurd h ha
theorem unpack_pack {l : List LOp} (h : packErr l = 0) : unpackOf (packBytes l) = some l := by
  unfold packErr at h
  by_cases h4 : 400 < l.length
  · rw [if_pos h4] at h; omega
  · rw [if_neg h4] at h
    obtain ⟨c, d, e1, e2⟩ := twoB_nat (n := l.length) (by omega)
    have e : packBytes l = c :: d :: packBody l := by unfold packBytes; rw [e1]; rfl
    rw [e, unpackOf, e2, if_neg h4, unpackN_pack h]
theorem pack_unpackN {n : Nat} {t : List UInt8} {l : List LOp} (h : unpackN n t = some l) : opsErr l = 0 ∧ l.length = n ∧ packBody l = t := by
  induction n generalizing t l with
  | zero =>
    unfold unpackN at h
    by_cases ht : t = []
    · rw [if_pos ht] at h
      injection h with h
      subst h
      exact ⟨rfl, rfl, ht.symm⟩
    · rw [if_neg ht] at h; cases h
  | succ n ih =>
    match t, h with
    | c :: d :: t, h =>
      rw [unpackN] at h
      by_cases hq : t.length < c.toNat * 256 + d.toNat
      · rw [if_pos hq] at h; cases h
      · rw [if_neg hq] at h
        cases hd : decOf (strOf (t.take (c.toNat * 256 + d.toNat))) with
        | none => rw [hd] at h; cases h
        | some o =>
          rw [hd] at h
          simp only at h
          cases hu : unpackN n (t.drop (c.toNat * 256 + d.toNat)) with
          | none => rw [hu] at h; cases h
          | some l' =>
            rw [hu] at h
            injection h with h
            subst h
            obtain ⟨i1, i2, i3⟩ := ih hu
            obtain ⟨d1, d2⟩ := dec_some hd
            have d2' : opBytes o = t.take (c.toNat * 256 + d.toNat) := d2
            refine ⟨by rw [opsErr, if_pos d1]; exact i1, by rw [List.length_cons, i2], ?_⟩
            have hl : (opBytes o).length = c.toNat * 256 + d.toNat := by rw [d2', List.length_take]; omega
            have e : packBody (o :: l') = twoB (opBytes o).length ++ opBytes o ++ packBody l' := by unfold packBody; rw [List.flatMap_cons]
            rw [e, hl, twoB_of, d2', i3, List.append_assoc, List.take_append_drop]
            rfl
    | [], h => rw [unpackN] at h; cases h; simp
    | [a], h => rw [unpackN] at h; cases h; simp
theorem pack_unpack {t : List UInt8} {l : List LOp} (h : unpackOf t = some l) : packErr l = 0 ∧ packBytes l = t := by
  match t, h with
  | c :: d :: t, h =>
    rw [unpackOf] at h
    by_cases h4 : 400 < c.toNat * 256 + d.toNat
    · rw [if_pos h4] at h; cases h
    · rw [if_neg h4] at h
      obtain ⟨i1, i2, i3⟩ := pack_unpackN h
      refine ⟨by rw [packErr, i2, if_neg h4]; exact i1, ?_⟩
      rw [packBytes, i2, twoB_of, i3]
      rfl
  | [], h => cases h
  | [a], h => cases h
end Go.Proofs.YtnmmnejoldbeiaaGreatDoor

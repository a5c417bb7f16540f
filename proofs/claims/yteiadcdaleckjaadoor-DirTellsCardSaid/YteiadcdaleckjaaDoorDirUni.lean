/- dir's four functions, each in one sentence; and what a loop over the stretches finds. By their contracts. Conditions: leafs and marks can be read. -/
import Derived.Test.YteiadcdaleckjaaDoorDirBad
import Derived.Test.YteiadcdaleckjaaDoorDirLaw
namespace Go.Proofs.YteiadcdaleckjaaDoor
open Go.RowKit
set_option linter.unusedVariables false
def ssOf (l : List LLeaf) (m : List LMark) : List LStr := if dirErr l m = 0 then strL l (places m) else []
/-- The first k stretches looked at for an offset. -/
def HitSt (ss : List LStr) (off f0 : Int) (k : Nat) (f a b : Int) : Prop :=
  (∃ j, ∃ hj : j < ss.length, j < k ∧ hit ss[j] off = true ∧ f = 0 ∧ a = (j : Int) ∧ b = off - ss[j].from_) ∨ ((∀ j (hj : j < ss.length), j < k → hit ss[j] off = false) ∧ f = f0 ∧ a = 0 ∧ b = 0)
theorem HitSt.hits {ss : List LStr} {off f0 f a b : Int} {k : Nat} (h : HitSt ss off f0 k f a b) (hk : k < ss.length) (hh : hit ss[k] off = true) : HitSt ss off f0 (k + 1) 0 k (off - ss[k].from_) := .inl ⟨k, hk, by omega, hh, rfl, rfl, rfl⟩
theorem HitSt.goes {ss : List LStr} {off f0 f a b : Int} {k : Nat} (h : HitSt ss off f0 k f a b) (hk : k < ss.length) (hh : hit ss[k] off = false) : HitSt ss off f0 (k + 1) f a b := by
  rcases h with ⟨j, hj, h1, h2⟩ | ⟨h1, h2⟩
  · exact .inl ⟨j, hj, by omega, h2⟩
  · refine .inr ⟨fun j hj hjk => ?_, h2⟩
    rcases Nat.lt_or_ge j k with h3 | h3
    · exact h1 j hj h3
    · obtain rfl : j = k := by omega
      exact hh
/-- The first k stretches looked at for a place. -/
def OfSt (ss : List LStr) (p : ByteArray) (k : Nat) (o : Int) : Prop :=
  (o = 0 ∧ ∀ j (hj : j < ss.length), j < k → 0 < j → ltP p ss[j].place) ∨ (∃ i, ∃ hi : i < ss.length, i < k ∧ o = (i : Int) ∧ ¬ ltP p ss[i].place ∧ ∀ j (hj : j < ss.length), j < k → i < j → ltP p ss[j].place)
theorem OfSt.hits {ss : List LStr} {p : ByteArray} {k : Nat} {o : Int} (h : OfSt ss p k o) (hk : k < ss.length) (hh : ¬ ltP p ss[k].place) : OfSt ss p (k + 1) k := .inr ⟨k, hk, by omega, rfl, hh, fun j hj h1 h2 => by omega⟩
theorem OfSt.goes {ss : List LStr} {p : ByteArray} {k : Nat} {o : Int} (h : OfSt ss p k o) (hk : k < ss.length) (hh : ltP p ss[k].place) : OfSt ss p (k + 1) o := by
  rcases h with ⟨h1, h2⟩ | ⟨i, hi, h1, h2, h3, h4⟩
  · refine .inl ⟨h1, fun j hj hjk h0 => ?_⟩
    rcases Nat.lt_or_ge j k with h3 | h3
    · exact h2 j hj h3 h0
    · obtain rfl : j = k := by omega
      exact hh
  · refine .inr ⟨i, hi, by omega, h2, h3, fun j hj hjk h0 => ?_⟩
    rcases Nat.lt_or_ge j k with h5 | h5
    · exact h4 j hj h5 h0
    · obtain rfl : j = k := by omega
      exact hh
theorem OfSt.is {ss : List LStr} {p : ByteArray} {o : Int} (h : OfSt ss p ss.length o) {k : Nat} (hk : k < ss.length) (h1 : k = 0 ∨ ¬ ltP p ss[k].place) (h2 : ∀ j (hj : j < ss.length), k < j → ltP p ss[j].place) : o = (k : Int) := by
  rcases h with ⟨h3, h4⟩ | ⟨i, hi, _, h3, h5, h6⟩
  · rcases h1 with h1 | h1
    · rw [h3, h1]; rfl
    · rcases Nat.eq_zero_or_pos k with h0 | h0
      · rw [h3, h0]; rfl
      · exact absurd (h4 k hk hk h0) h1
  · rcases Nat.lt_trichotomy i k with h7 | h7 | h7
    · rcases h1 with h1 | h1
      · omega
      · exact absurd (h6 k hk hk h7) h1
    · rw [h3, h7]
    · exact absurd (h2 i hi h7) h5
theorem hit_iff (s : LStr) (off : Int) : hit s off = true ↔ s.from_ ≤ off ∧ off - s.from_ < s.long := by simp [hit]
theorem dir_two {l : List LLeaf} {m : List LMark} (h : dirErr l m = 0) : bookErr l = 0 ∧ marksErr m = 0 := by
  unfold dirErr at h
  by_cases h1 : bookErr l = 0
  · exact ⟨h1, by rw [if_neg (fun x => x h1)] at h; exact h⟩
  · rw [if_pos h1] at h; exact absurd h h1
/-- An offset is in one stretch at most. -/
theorem hit_one {l : List LLeaf} {m : List LMark} (h : dirErr l m = 0) {off : Int} {i j : Nat} (hi : i < (strL l (places m)).length) (hj : j < (strL l (places m)).length) (h1 : hit (strL l (places m))[i] off = true) (h2 : hit (strL l (places m))[j] off = true) : i = j := by
  have hr := rises_places (dir_two h).2
  have key : ∀ a b (ha : a < (strL l (places m)).length) (hb : b < (strL l (places m)).length), a < b → hit (strL l (places m))[a] off = true → hit (strL l (places m))[b] off = true → False := fun a b ha hb hab e1 e2 => by
    have la := strL_len (l := l) (ps := places m)
    have sa := strL_at (l := l) (ps := places m) (k := a) (by omega)
    have sb := strL_at (l := l) (ps := places m) (k := b) (by omega)
    rw [List.getElem?_eq_getElem ha] at sa
    rw [List.getElem?_eq_getElem hb] at sb
    injection sa with sa
    injection sb with sb
    rw [sa, hit_iff] at e1
    rw [sb, hit_iff] at e2
    have m1 := fr_mono (l := l) hr (i := a + 1) (j := b) (by omega) (by omega)
    have m2 : endOf l (places m) a = fr l (places m) (a + 1) := by unfold endOf; rw [if_pos (by omega)]
    simp only at e1 e2
    omega
  rcases Nat.lt_trichotomy i j with h3 | h3 | h3
  · exact (key i j hi hj h3 h1 h2).elim
  · exact h3
  · exact (key j i hj hi h3 h2 h1).elim
section
variable {w : World} {A A2 : Option Addr} {c c2 : Nat} {l : List LLeaf} {m : List LMark}
theorem stretches_uni (H : DirIn w A c l A2 c2 m) :
    Calls Tryd.prog 16 #[.slice A l.length c, .slice A2 m.length c2] w (fun e w' => ∃ V cv, e = .returned (.tuple #[.slice V (ssOf l m).length cv, errV (dirErr l m)]) ∧ Own w' w.heap.size 46 3 V (ssOf l m).length cv (scells (ssOf l m)) ∧ Below w.heap.size w w') := by
  unfold ssOf
  by_cases h : dirErr l m = 0
  · rw [if_pos h, h]
    refine (stretches_ok H h).mono ?_
    rintro e w' ⟨V, cv, rfl, hO, hb⟩
    exact ⟨V, cv, rfl, hO, hb⟩
  · rw [if_neg h]
    refine (stretches_bad H h).mono ?_
    rintro e w' ⟨rfl, hb⟩
    exact ⟨none, 0, rfl, Own.nil _ _ _ _, hb⟩
theorem locate_uni (H : DirIn w A c l A2 c2 m) {off f a b : Int} (ho : -9223372036854775808 ≤ off ∧ off ≤ 9223372036854775807) (h : HitSt (ssOf l m) off (if dirErr l m = 0 then 1 else dirErr l m) (ssOf l m).length f a b) :
    Calls Tryd.prog 18 #[.slice A l.length c, .slice A2 m.length c2, .int .i64 off] w (fun e w' => e = .returned (.tuple #[.int .i64 a, .int .i64 b, errV f]) ∧ Below w.heap.size w w') := by
  by_cases hd : dirErr l m = 0
  · have hs : ssOf l m = strL l (places m) := if_pos hd
    rw [if_pos hd, hs] at h
    refine (locate_any H hd off ho).mono ?_
    rintro e w' ⟨hh, hb⟩
    refine ⟨?_, hb⟩
    rcases hh with ⟨k, hk, h1, rfl⟩ | ⟨h1, rfl⟩
    · rcases h with ⟨j, hj, _, h2, rfl, rfl, rfl⟩ | ⟨h2, _⟩
      · obtain rfl := hit_one hd hk hj h1 h2
        rfl
      · rw [h2 k hk hk] at h1; cases h1
    · rcases h with ⟨j, hj, _, h2, _⟩ | ⟨_, rfl, rfl, rfl⟩
      · rw [h1 j hj] at h2; cases h2
      · rfl
  · have hs : ssOf l m = [] := if_neg hd
    rw [if_neg hd, hs] at h
    rcases h with ⟨j, hj, _⟩ | ⟨_, rfl, rfl, rfl⟩
    · simp at hj
    · exact locate_bad H hd off
def sliceT (l : List LLeaf) (m : List LMark) (i : Int) : ByteArray := if sliceErr l m i = 0 then (textOf l).extract (((strL l (places m)).getD i.toNat ⟨⟨#[]⟩, 0, 0⟩).from_.toNat) (((strL l (places m)).getD i.toNat ⟨⟨#[]⟩, 0, 0⟩).from_.toNat + ((strL l (places m)).getD i.toNat ⟨⟨#[]⟩, 0, 0⟩).long.toNat) else ⟨#[]⟩
theorem slice_uni (H : DirIn w A c l A2 c2 m) (i : Int) :
    Calls Tryd.prog 20 #[.slice A l.length c, .slice A2 m.length c2, .int .i64 i] w (SlicePost w (sliceT l m i) (sliceErr l m i)) := by
  unfold sliceT
  by_cases hd : dirErr l m = 0
  · by_cases hi : i < 0 ∨ ((strL l (places m)).length : Int) ≤ i
    · have e : sliceErr l m i = 1 := by unfold sliceErr; rw [if_neg (fun x => x hd), if_pos hi]
      rw [e, if_neg (by decide)]
      exact slice_out H hd i hi
    · have e : sliceErr l m i = 0 := by unfold sliceErr; rw [if_neg (fun x => x hd), if_neg hi]
      obtain ⟨k, rfl⟩ : ∃ k : Nat, i = (k : Int) := ⟨i.toNat, by omega⟩
      have hk : k < (strL l (places m)).length := by omega
      obtain ⟨f, n, hst⟩ := strs_ok hd k hk
      rw [e, if_pos rfl]
      have := slice_in H hd k hk f n hst
      rw [show ((k : Int).toNat) = k by omega, List.getD, List.getElem?_eq_getElem hk]
      simp only [Option.getD_some]
      rw [hst.from_, hst.long]
      exact this
  · have e : sliceErr l m i = dirErr l m := by unfold sliceErr; rw [if_pos hd]
    rw [e, if_neg hd]
    exact slice_bad H hd i
theorem of_uni (H : DirIn w A c l A2 c2 m) {p : ByteArray} (hps : p.size ≤ 9223372036854775807) {o : Int} (h1 : (if dirErr l m = 0 then placeErr p else dirErr l m) = 0 → OfSt (ssOf l m) p (ssOf l m).length o) (h0 : (if dirErr l m = 0 then placeErr p else dirErr l m) ≠ 0 → o = 0) :
    Calls Tryd.prog 22 #[.slice A l.length c, .slice A2 m.length c2, .string p] w (fun e w' => e = .returned (.tuple #[.int .i64 o, errV (if dirErr l m = 0 then placeErr p else dirErr l m)]) ∧ Below w.heap.size w w') := by
  by_cases hd : dirErr l m = 0
  · have hs : ssOf l m = strL l (places m) := if_pos hd
    rw [if_pos hd, hs] at h1
    rw [if_pos hd] at h0
    rw [if_pos hd]
    by_cases hp : placeErr p = 0
    · refine (of_any H hd p hp hps).mono ?_
      rintro e w' ⟨⟨k, hk, h2, h3, rfl⟩, hb⟩
      rw [(h1 hp).is hk h2 h3, hp]
      exact ⟨rfl, hb⟩
    · rw [h0 hp]
      exact of_place H hd p hp hps
  · rw [if_neg hd] at h0
    rw [if_neg hd, h0 hd]
    exact of_bad H hd p
end
end Go.Proofs.YteiadcdaleckjaaDoor

/- Edits as plain data: what two texts have in common, edits from one to the other, edits done and turned. Conditions: none. -/
import Derived.Test.YteiadcdaleckjaaDoorPlaceCheck
namespace Go.Proofs.YteiadcdaleckjaaDoor
namespace Df
def lcs : List UInt8 → List UInt8 → Nat
  | [], _ => 0
  | _ :: _, [] => 0
  | x :: a, y :: b => if x = y then lcs a b + 1 else max (lcs a (y :: b)) (lcs (x :: a) b)
termination_by a b => a.length + b.length

theorem lcs_nil (b : List UInt8) : lcs [] b = 0 := by rw [lcs]
theorem lcs_nil_right (a : List UInt8) : lcs a [] = 0 := by cases a <;> rw [lcs]
theorem lcs_same (x : UInt8) (a b : List UInt8) : lcs (x :: a) (x :: b) = lcs a b + 1 := by rw [lcs]; simp
theorem lcs_other {x y : UInt8} (h : x ≠ y) (a b : List UInt8) : lcs (x :: a) (y :: b) = max (lcs a (y :: b)) (lcs (x :: a) b) := by rw [lcs]; simp [h]

theorem lcs_le (a b : List UInt8) : lcs a b ≤ a.length ∧ lcs a b ≤ b.length := by
  fun_induction lcs a b with
  | case1 => simp
  | case2 => simp
  | case3 a x b ih => simp; omega
  | case4 x a y b h ih1 ih2 => simp at *; omega

theorem lcs_has (a b : List UInt8) : ∃ s : List UInt8, s.Sublist a ∧ s.Sublist b ∧ s.length = lcs a b := by
  fun_induction lcs a b with
  | case1 => exact ⟨[], by simp, by simp, rfl⟩
  | case2 => exact ⟨[], by simp, by simp, rfl⟩
  | case3 a x b ih => obtain ⟨s, h1, h2, h3⟩ := ih; exact ⟨x :: s, by simpa using h1, by simpa using h2, by simp [h3]⟩
  | case4 x a y b h ih1 ih2 =>
    obtain ⟨s, h1, h2, h3⟩ := ih1
    obtain ⟨t, g1, g2, g3⟩ := ih2
    rcases Nat.le_total (lcs a (y :: b)) (lcs (x :: a) b) with hm | hm
    · exact ⟨t, g1, g2.cons _, by rw [g3]; omega⟩
    · exact ⟨s, h1.cons _, h2, by rw [h3]; omega⟩

theorem sub_tail {x y : UInt8} {s b : List UInt8} (h : (x :: s).Sublist (y :: b)) : s.Sublist b := by
  cases h with
  | cons _ h => exact (List.sublist_cons_self x s).trans h
  | cons_cons _ h => exact h
theorem sub_skip {x y : UInt8} {s b : List UInt8} (h : (x :: s).Sublist (y :: b)) (hne : x ≠ y) : (x :: s).Sublist b := by
  cases h with
  | cons _ h => exact h
  | cons_cons _ h => exact absurd rfl hne

theorem lcs_most (a b s : List UInt8) (ha : s.Sublist a) (hb : s.Sublist b) : s.length ≤ lcs a b := by
  fun_induction lcs a b generalizing s with
  | case1 => simp at ha; simp [ha]
  | case2 => simp at hb; simp [hb]
  | case3 a x b ih =>
    cases s with
    | nil => simp
    | cons z s => have := ih s (sub_tail ha) (sub_tail hb); simp; omega
  | case4 x a y b h ih1 ih2 =>
    cases s with
    | nil => simp
    | cons z s =>
      by_cases hz : z = x
      · subst hz
        have := ih2 _ ha (sub_skip hb h)
        omega
      · have := ih1 _ (sub_skip ha hz) hb
        omega

theorem meet_sub (b s t : List UInt8) (hs : s.Sublist b) (ht : t.Sublist b) : ∃ u : List UInt8, u.Sublist s ∧ u.Sublist t ∧ s.length + t.length ≤ b.length + u.length := by
  induction b generalizing s t with
  | nil => simp at hs ht; exact ⟨[], by simp, by simp, by simp [hs, ht]⟩
  | cons x b ih =>
    cases hs with
    | cons _ hs =>
      cases ht with
      | cons _ ht => obtain ⟨u, h1, h2, h3⟩ := ih _ _ hs ht; exact ⟨u, h1, h2, by simp; omega⟩
      | cons_cons _ ht => obtain ⟨u, h1, h2, h3⟩ := ih _ _ hs ht; exact ⟨u, h1, h2.cons _, by simp; omega⟩
    | cons_cons _ hs =>
      cases ht with
      | cons _ ht => obtain ⟨u, h1, h2, h3⟩ := ih _ _ hs ht; exact ⟨u, h1.cons _, h2, by simp; omega⟩
      | cons_cons _ ht => obtain ⟨u, h1, h2, h3⟩ := ih _ _ hs ht; exact ⟨x :: u, by simpa using h1, by simpa using h2, by simp; omega⟩

theorem lcs_tri (a b c : List UInt8) : lcs a b + lcs b c ≤ b.length + lcs a c := by
  obtain ⟨s, h1, h2, h3⟩ := lcs_has a b
  obtain ⟨t, g1, g2, g3⟩ := lcs_has b c
  obtain ⟨u, k1, k2, k3⟩ := meet_sub b s t h2 g1
  have := lcs_most a c u (k1.trans h1) (k2.trans g2)
  omega
theorem lcs_sub {a c : List UInt8} (h : a.Sublist c) : lcs a c = a.length ∧ lcs c a = a.length :=
  ⟨Nat.le_antisymm (lcs_le a c).1 (lcs_most a c a (List.Sublist.refl _) h), Nat.le_antisymm (lcs_le c a).2 (lcs_most c a a h (List.Sublist.refl _))⟩

structure Ed where
  keep : Nat
  strike : Nat
  write : List UInt8
def Ed.dirty (e : Ed) : Bool := decide (0 < e.strike) || !e.write.isEmpty
def dif (e : Ed) : List UInt8 → List UInt8 → List Ed
  | [], [] => if e.dirty then [e] else []
  | [], y :: b => dif ⟨e.keep, e.strike, e.write ++ [y]⟩ [] b
  | _ :: a, [] => dif ⟨e.keep, e.strike + 1, e.write⟩ a []
  | x :: a, y :: b =>
    if x = y then (if e.dirty then e :: dif ⟨1, 0, []⟩ a b else dif ⟨e.keep + 1, e.strike, e.write⟩ a b)
    else if lcs (x :: a) b ≤ lcs a (y :: b) then dif ⟨e.keep, e.strike + 1, e.write⟩ a (y :: b) else dif ⟨e.keep, e.strike, e.write ++ [y]⟩ (x :: a) b
termination_by a b => a.length + b.length
def cost (l : List Ed) : Nat := (l.map fun e => e.strike + e.write.length).sum

theorem clean {e : Ed} (h : ¬ e.dirty = true) : e.strike = 0 ∧ e.write = [] := by
  simp [Ed.dirty] at h
  exact ⟨by omega, h.2⟩

theorem cost_dif (e : Ed) (a b : List UInt8) : cost (dif e a b) + 2 * lcs a b = e.strike + e.write.length + a.length + b.length := by
  fun_induction dif e a b with
  | case1 e h => simp [cost, lcs_nil]
  | case2 e h => obtain ⟨h1, h2⟩ := clean h; simp [cost, lcs_nil, h1, h2]
  | case3 e y b ih => simp [lcs_nil] at *; omega
  | case4 e x a ih => simp [lcs_nil_right] at *; omega
  | case5 e a x b h ih => rw [lcs_same]; simp [cost] at *; omega
  | case6 e a x b h ih => rw [lcs_same]; simp at *; omega
  | case7 e x a y b h h2 ih => rw [lcs_other h]; simp at *; omega
  | case8 e x a y b h h2 ih => rw [lcs_other h]; simp at *; omega

theorem strike_dif (e : Ed) (a b : List UInt8) : ∀ d ∈ dif e a b, d.strike ≤ e.strike + a.length := by
  fun_induction dif e a b with
  | case1 e h => simp
  | case2 e h => simp
  | case3 e y b ih => intro d hd; have := ih d hd; simp at *; omega
  | case4 e x a ih => intro d hd; have := ih d hd; simp at *; omega
  | case5 e a x b h ih =>
    intro d hd
    rcases List.mem_cons.1 hd with rfl | hd
    · omega
    · have := ih d hd; simp at *; omega
  | case6 e a x b h ih => intro d hd; have := ih d hd; simp at *; omega
  | case7 e x a y b h h2 ih => intro d hd; have := ih d hd; simp at *; omega
  | case8 e x a y b h h2 ih => intro d hd; have := ih d hd; simp at *; omega

theorem many_dif (e : Ed) (a b : List UInt8) : 3 * (dif e a b).length ≤ a.length + b.length + (if e.dirty then 3 else 2) := by
  fun_induction dif e a b with
  | case1 e h => simp [h]
  | case2 e h => simp
  | case3 e y b ih =>
    have : (if (Ed.mk e.keep e.strike (e.write ++ [y])).dirty = true then 3 else 2) ≤ 3 := by split <;> omega
    have : 2 ≤ (if e.dirty = true then 3 else 2) := by split <;> omega
    simp at *; omega
  | case4 e x a ih =>
    have : (if (Ed.mk e.keep (e.strike + 1) e.write).dirty = true then 3 else 2) ≤ 3 := by split <;> omega
    have : 2 ≤ (if e.dirty = true then 3 else 2) := by split <;> omega
    simp at *; omega
  | case5 e a x b h ih =>
    simp [h, show (Ed.mk 1 0 []).dirty = false from rfl] at *; omega
  | case6 e a x b h ih =>
    have : (if (Ed.mk (e.keep + 1) e.strike e.write).dirty = true then 3 else 2) ≤ 3 := by split <;> omega
    simp [h] at *; omega
  | case7 e x a y b h h2 ih =>
    have : (if (Ed.mk e.keep (e.strike + 1) e.write).dirty = true then 3 else 2) ≤ 3 := by split <;> omega
    have : 2 ≤ (if e.dirty = true then 3 else 2) := by split <;> omega
    simp at *; omega
  | case8 e x a y b h h2 ih =>
    have : (if (Ed.mk e.keep e.strike (e.write ++ [y])).dirty = true then 3 else 2) ≤ 3 := by split <;> omega
    have : 2 ≤ (if e.dirty = true then 3 else 2) := by split <;> omega
    simp at *; omega

theorem dif_same (e : Ed) (h : e.dirty = false) (a : List UInt8) : dif e a a = [] := by
  induction a generalizing e with
  | nil => rw [dif]; simp [h]
  | cons x a ih => rw [dif]; simp only [if_true]; rw [if_neg (by simp [h])]; exact ih _ (by simpa [Ed.dirty] using h)
end Df
/-- An edit as it lies in memory. -/
structure LEd where
  keep : Int
  strike : Int
  write : ByteArray
def Df.Ed.L (e : Df.Ed) : LEd := ⟨e.keep, e.strike, strOf e.write⟩
/-- Edits, done: what comes, and what takes it back. -/
def edBad (n : Nat) (e : LEd) : Prop := e.keep < 0 ∨ e.strike < 0 ∨ (n : Int) < e.keep ∨ (n : Int) - e.keep < e.strike
instance (n : Nat) (e : LEd) : Decidable (edBad n e) := by unfold edBad; infer_instance
def edBack (a : List UInt8) (e : LEd) : LEd := ⟨e.keep, e.write.size, strOf ((a.take (e.keep + e.strike).toNat).drop e.keep.toNat)⟩
def wk : List UInt8 → List LEd → Option (List UInt8 × List LEd)
  | a, [] => some (a, [])
  | a, e :: l => if edBad a.length e then none else
    (wk (a.drop (e.keep + e.strike).toNat) l).map fun r => (a.take e.keep.toNat ++ e.write.data.toList ++ r.1, edBack a e :: r.2)

theorem strOf_list (l : List UInt8) : (strOf l).data.toList = l := rfl

theorem wk_nat {K S a : List UInt8} {k s : Nat} {wr : ByteArray} (hk : K.length = k) (hs : S.length = s) (l : List LEd) :
    wk (K ++ S ++ a) (⟨k, s, wr⟩ :: l) = (wk a l).map fun r => (K ++ wr.data.toList ++ r.1, ⟨k, wr.size, strOf S⟩ :: r.2) := by
  subst hk hs
  have hb : ¬ edBad (K ++ S ++ a).length ⟨K.length, S.length, wr⟩ := by simp [edBad]; omega
  rw [wk, if_neg hb]
  have e1 : ((K.length : Int) + (S.length : Int)).toNat = (K ++ S).length := by simp; omega
  have e2 : ((K.length : Int)).toNat = K.length := by omega
  simp only [edBack, e1, e2]
  rw [List.drop_left, List.take_left, List.append_assoc, List.take_left, List.drop_left]

theorem wk_dif (e : Df.Ed) (a b K S : List UInt8) (hk : K.length = e.keep) (hs : S.length = e.strike) :
    ∃ bk, wk (K ++ S ++ a) ((Df.dif e a b).map Df.Ed.L) = some (K ++ e.write ++ b, bk) := by
  fun_induction Df.dif e a b generalizing K S with
  | case1 e h =>
    simp only [List.map_cons, List.map_nil, Df.Ed.L]
    exact ⟨_, by rw [wk_nat hk hs]; simp [wk, strOf_list]; rfl⟩
  | case2 e h =>
    obtain ⟨h1, h2⟩ := Df.clean h
    rw [h1] at hs
    have hS : S = [] := List.eq_nil_of_length_eq_zero hs
    subst hS
    exact ⟨_, by simp [wk, h2]; rfl⟩
  | case3 e y b ih =>
    obtain ⟨bk, h⟩ := ih K S hk hs
    exact ⟨bk, by rw [h]; simp⟩
  | case4 e x a ih =>
    obtain ⟨bk, h⟩ := ih K (S ++ [x]) hk (by simp [hs])
    exact ⟨bk, by rw [← h]; simp⟩
  | case5 e a x b h ih =>
    obtain ⟨bk, h⟩ := ih [x] [] rfl rfl
    simp only [List.map_cons]
    rw [show Df.Ed.L e = ⟨e.keep, e.strike, strOf e.write⟩ from rfl, wk_nat hk hs]
    have h' : wk (x :: a) (List.map Df.Ed.L (Df.dif ⟨1, 0, []⟩ a b)) = some (x :: b, bk) := by simpa using h
    rw [h']
    exact ⟨_, by simp [strOf_list]; rfl⟩
  | case6 e a x b h ih =>
    obtain ⟨h1, h2⟩ := Df.clean h
    rw [h1] at hs
    have hS : S = [] := List.eq_nil_of_length_eq_zero hs
    subst hS
    obtain ⟨bk, h⟩ := ih (K ++ [x]) [] (by simp [hk]) (by simp [h1])
    exact ⟨bk, by rw [h2] at h ⊢; simpa using h⟩
  | case7 e x a y b h h2 ih =>
    obtain ⟨bk, h⟩ := ih K (S ++ [x]) hk (by simp [hs])
    exact ⟨bk, by rw [← h]; simp⟩
  | case8 e x a y b h h2 ih =>
    obtain ⟨bk, h⟩ := ih K S hk hs
    exact ⟨bk, by rw [h]; simp⟩

theorem wk_len {a s : List UInt8} {l bk : List LEd} (h : wk a l = some (s, bk)) : bk.length = l.length := by
  induction l generalizing a s bk with
  | nil => simp [wk] at h; simp [h]
  | cons e l ih =>
    rw [wk] at h
    split at h
    · cases h
    · rw [Option.map_eq_some_iff] at h
      obtain ⟨⟨s', bk'⟩, h1, h2⟩ := h
      injection h2 with h2 h3
      subst h3
      simp [ih h1]

theorem wk_turn {a s : List UInt8} {l bk : List LEd} (h : wk a l = some (s, bk)) : ∃ r, wk s bk = some (a, r) := by
  induction l generalizing a s bk with
  | nil => simp [wk] at h; obtain ⟨rfl, rfl⟩ := h; exact ⟨_, rfl⟩
  | cons e l ih =>
    rw [wk] at h
    split at h
    · cases h
    · rename_i hb
      rw [Option.map_eq_some_iff] at h
      obtain ⟨⟨s', bk'⟩, h1, h2⟩ := h
      injection h2 with h2 h3
      subst h3 h2
      obtain ⟨r, hr⟩ := ih h1
      simp only [edBad, not_or] at hb
      obtain ⟨b1, b2, b3, b4⟩ := hb
      obtain ⟨k, hk⟩ := Int.eq_ofNat_of_zero_le (show 0 ≤ e.keep by omega)
      obtain ⟨st, hst⟩ := Int.eq_ofNat_of_zero_le (show 0 ≤ e.strike by omega)
      have e1 : (e.keep + e.strike).toNat = k + st := by omega
      have e2 : e.keep.toNat = k := by omega
      simp only [edBack, e1, e2] at hr ⊢
      have hw := wk_nat (K := a.take k) (S := e.write.data.toList) (a := s') (k := k) (s := e.write.size) (wr := strOf ((a.take (k + st)).drop k)) (by rw [List.length_take]; omega) (by rw [Array.length_toList]; rfl) bk'
      rw [hk]
      have hj : a.take k ++ (a.take (k + st)).drop k = a.take (k + st) := by
        rw [List.drop_take, show k + st - k = st by omega, ← List.take_add]
      exact ⟨_, by rw [hw, hr]; simp only [Option.map_some, strOf_list]; rw [hj, List.take_append_drop]⟩
end Go.Proofs.YteiadcdaleckjaaDoor

/- 2 texts in one: each says ahead of itself what is proved, and its conditions. -/
import Derived.Test.YthfbjfocmnikaaaGreatDoorPlaceCheck
import Derived.Test.YthfbjfocmnikaaaGreatDoorVec
/- dot.Has, dot.Add, walked. Conditions: stated with each. -/
namespace Go.Proofs.YthfbjfocmnikaaaGreatDoor
open Go.RowKit
set_option linter.unusedVariables false

theorem elemI : Elem Tryz.prog 23 3 1 8 := Elem.mk_ (z := .int .i64 0) Tryz.underlying23 (by kernel_rfl) rfl (by decide)
theorem cloneI (w : World) (A : Option Addr) (n c : Nat) (xs : List Value) (hr : Reads w w.heap.size 1 A n xs) (h1 : OneCells xs) (hf : Fits n 8) :
    Calls Tryz.prog 76 #[.slice A n c] w fun e w' => ∃ A' c', e = .returned (.slice A' n c') ∧ Own w' w.heap.size 3 1 A' n c' xs ∧ Below w.heap.size w w' := by
  have HF : Fits (0 + n) 8 := by simpa using hf
  have HR := hr.alloc (Nat.le_refl _) (.cells #[] 3)
  cases A with
  | none =>
    have he := Lib.run_eql_slice_nil (P := Tryz.prog) w 23 3 none n c 0 0 Tryz.underlying23
    go_enter Tryz.func76, Tryz.ntmps76
    go_wp2
    go_ret
    have hn : n = 0 := by
      rcases Nat.eq_zero_or_pos n with h | h
      · exact h
      · obtain ⟨_, h, _⟩ := hr.2 h; cases h
    subst hn
    have hx : xs = [] := List.eq_nil_of_length_eq_zero (by simpa using hr.1)
    subst hx
    exact ⟨none, 0, rfl, Own.nil _ _ _ _, Below.refl _ _⟩
  | some ad =>
    have heS := Lib.run_eql_slice_nil (P := Tryz.prog) w 23 3 (some ad) n c 0 0 Tryz.underlying23
    go_enter Tryz.func76, Tryz.ntmps76
    go_wp2_with (at_builtin; refine wpList_app _ (.tmp 5) (.tmp 6) rfl rfl elemI rfl rfl (Own.made w 3 w.heap.size (Nat.le_refl _) 1) HR h1 HF (by simp) ?_; intro A' c' w1 HO HL HB)
    go_ret
    refine ⟨A', c', rfl, by simpa using HO, ?_⟩
    exact ((Below.refl _ _).alloc (Nat.le_refl _) _).trans (HL.below (by simp) (by simp [ob]))

theorem vd_ok {l : List Int} {d : LDot} (h : vdErr l d = 0) : vecErr l = 0 ∧ dotErr d = 0 := by
  unfold vdErr at h
  by_cases h1 : vecErr l ≠ 0
  · rw [if_pos h1] at h; exact absurd h h1
  · rw [if_neg h1] at h; exact ⟨by omega, h⟩
theorem dot_in {d : LDot} (h : dotErr d = 0) : ∃ k : Nat, k < 8 ∧ d.who = (k : Int) + 1 ∧ 1 ≤ d.n ∧ d.n ≤ 9999 := by
  unfold dotErr at h
  split at h
  · rename_i hh; exact ⟨(d.who - 1).toNat, by omega, by omega, hh.2.2⟩
  · omega
/-- The number that a vector has of a dot's author. -/
def nOf (l : List Int) (d : LDot) : Int := l.getD (d.who - 1).toNat 0
theorem nOf_at {l : List Int} {k : Nat} {n : Int} (h : k < l.length) : nOf l ⟨(k : Int) + 1, n⟩ = l[k] := by
  unfold nOf
  simp only
  rw [show ((k : Int) + 1 - 1).toNat = k by omega]
  simp [List.getD, List.getElem?_eq_getElem h]
def hasRes (l : List Int) (d : LDot) : Bool := decide (vdErr l d = 0) && decide (d.n ≤ nOf l d)
def HasPost (w : World) (l : List Int) (d : LDot) (e : Ending) (w' : World) : Prop := e = .returned (.tuple #[.bool (hasRes l d), errV (vdErr l d)]) ∧ Below w.heap.size w w'
set_option maxRecDepth 100000 in
set_option maxHeartbeats 1000000 in
theorem has_any (w : World) (A : Option Addr) (c : Nat) (l : List Int) (d : LDot) (h : Reads w w.heap.size 1 A l.length (ints l)) (hn : l.length ≤ 9223372036854775807) :
    Calls Tryz.prog 82 #[.slice A l.length c, .agg #[.int .i64 d.who, .int .i64 d.n]] w (HasPost w l d) := by
  obtain ⟨who, n⟩ := d
  have HBk := Lib.hid (Blk.new w 27 #[.int .i64 who, .int .i64 n])
  have hb : Below w.heap.size w (w.alloc (.cells #[.int .i64 who, .int .i64 n] 27)) := (Below.refl _ _).alloc (Nat.le_refl _) _
  have HV := Lib.hid (vready_any (w.alloc (.cells #[.int .i64 who, .int .i64 n] 27)) A c l ⟨who, n⟩ ((h.alloc (Nat.le_refl _) _).more (by simp)) hn)
  have HB := Lib.hid hb
  have HR := Lib.hid h
  clear h hb
  by_cases hv : vdErr l ⟨who, n⟩ = 0
  · obtain ⟨v1, v2⟩ := vd_ok hv
    obtain ⟨k, hk, hw, n1, n2⟩ := dot_in v2
    simp only at hw n1 n2
    subst hw
    have hl8 := (vec_ok v1).1
    have hkl : k < l.length := by omega
    have HN := Lib.hid (nOf_at (n := n) hkl)
    have HV0 := Lib.hid hv
    clear hv v1 v2 hl8
    go_enter Tryz.func82, Tryz.ntmps82
    go_wp2_with fail
    refine HV.out.mono ?_
    rintro e w2 ⟨rfl, hb2⟩
    rw [HV0.out, show errV 0 = .nilIface from rfl]
    have HB2 : Hid (Below w.heap.size w w2) := HB.out.trans (hb2.mono (by simp))
    have hlt2 : w.heap.size < (w.alloc (.cells #[.int .i64 ((k : Int) + 1), .int .i64 n] 27)).heap.size := by simp
    obtain ⟨ad, rfl, hbk, c0⟩ := (HR.out.below HB2.out).int hkl
    have d0 : w2.cell? ⟨w.heap.size, 0, none⟩ = some (.int .i64 ((k : Int) + 1)) := by rw [(HBk.out.below hb2 hlt2).cell]; rfl
    have d1 : w2.cell? ⟨w.heap.size, 1, none⟩ = some (.int .i64 n) := by rw [(HBk.out.below hb2 hlt2).cell]; rfl
    have k0 : (0 : Int) ≤ (k : Int) := by omega
    have k1 : (k : Int) < (l.length : Int) := by omega
    have q1 : IntKind.i64.wrap ((k : Int) + 1 - 1) = (k : Int) := by rw [IntWalk.i64_in _ (by omega)]; omega
    clear hb2 hlt2
    go_wp2_with fail
    go_quiet (fail)
    go_wp2_with fail
    go_ret2
    refine ⟨?_, below_drewN HB2.out _⟩
    unfold hasRes
    rw [HV0.out, HN.out]
    simp [errV]
  · have HN := Lib.hid (errV_ne hv)
    have HH : Hid (hasRes l ⟨who, n⟩ = false) := by show _ = _; unfold hasRes; simp [hv]
    clear hv
    go_enter Tryz.func82, Tryz.ntmps82
    go_wp2_with fail
    refine HV.out.mono ?_
    rintro e w2 ⟨rfl, hb2⟩
    rw [HN.out]
    go_wp2_with fail
    go_ret2
    exact ⟨by rw [HH.out, HN.out]; rfl, HB.out.trans (hb2.mono (by simp))⟩
def addErr (l : List Int) (d : LDot) : Int := if vdErr l d ≠ 0 then vdErr l d else if d.n ≤ nOf l d then 7 else if nOf l d < d.n - 1 then 6 else 0
def addRes (l : List Int) (d : LDot) : List Int := l.set (d.who - 1).toNat d.n
def AddPost (w : World) (l : List Int) (d : LDot) (e : Ending) (w' : World) : Prop :=
  if addErr l d = 0 then ∃ V c, e = .returned (.tuple #[.slice V l.length c, .nilIface]) ∧ Own w' w.heap.size 3 1 V l.length c (ints (addRes l d)) ∧ Below w.heap.size w w'
  else e = .returned (.tuple #[.slice none 0 0, errV (addErr l d)]) ∧ Below w.heap.size w w'
theorem Own.store {w : World} {B : Nat} {e : TypeId} {g n c : Nat} {xs : List Value} (h : Own w B e 1 (some ⟨g, 0, none⟩) n c xs) {k : Nat} (hk : k < n) (u : Value) : Own (w.setCell ⟨g, k, none⟩ u) B e 1 (some ⟨g, 0, none⟩) n c (xs.set k u) := by
  obtain ⟨h1, h2⟩ := h
  refine ⟨by rw [List.length_set]; exact h1, ?_⟩
  rcases h2 with ⟨h2, _⟩ | ⟨g', cap, cur, e1, e2, e3, e4, e5, e6, e7⟩
  · cases h2
  · injection e1 with e1 _ ec
    injection e1 with e1
    injection e1 with e1
    subst e1 ec
    refine .inr ⟨g, c, cur.setIfInBounds k u, rfl, e2, Blk.set_ (t := e) e3 k u, e4, e5, by simpa using e6, ?_⟩
    rw [Array.toList_setIfInBounds, ← e7, List.take_set]
theorem ints_set (l : List Int) (k : Nat) (n : Int) : (ints l).set k (.int .i64 n) = ints (l.set k n) := by simp [ints, List.map_set]

set_option maxRecDepth 100000 in
set_option maxHeartbeats 2000000 in
theorem add_any (w : World) (A : Option Addr) (c : Nat) (l : List Int) (d : LDot) (h : Reads w w.heap.size 1 A l.length (ints l)) (hn : l.length ≤ 9223372036854775807) :
    Calls Tryz.prog 83 #[.slice A l.length c, .agg #[.int .i64 d.who, .int .i64 d.n]] w (AddPost w l d) := by
  obtain ⟨who, n⟩ := d
  have HBk := Lib.hid (Blk.new w 27 #[.int .i64 who, .int .i64 n])
  have hb : Below w.heap.size w (w.alloc (.cells #[.int .i64 who, .int .i64 n] 27)) := (Below.refl _ _).alloc (Nat.le_refl _) _
  have HV := Lib.hid (vready_any (w.alloc (.cells #[.int .i64 who, .int .i64 n] 27)) A c l ⟨who, n⟩ ((h.alloc (Nat.le_refl _) _).more (by simp)) hn)
  have HB := Lib.hid hb
  have HR := Lib.hid h
  clear h hb
  by_cases hv : vdErr l ⟨who, n⟩ = 0
  · obtain ⟨v1, v2⟩ := vd_ok hv
    obtain ⟨k, hk, hw, n1, n2⟩ := dot_in v2
    simp only at hw n1 n2
    subst hw
    have hl8 := (vec_ok v1).1
    have hkl : k < l.length := by omega
    have hlk := (vec_ok v1).2 l[k] (List.getElem_mem hkl)
    have HN := Lib.hid (nOf_at (n := n) hkl)
    have HV0 := Lib.hid hv
    have HL8 := Lib.hid hl8
    clear hv v1 v2
    have k0 : (0 : Int) ≤ (k : Int) := by omega
    have k1 : (k : Int) < (l.length : Int) := by omega
    have q1 : IntKind.i64.wrap ((k : Int) + 1 - 1) = (k : Int) := by rw [IntWalk.i64_in _ (by omega)]; omega
    have hF : Fits l.length 8 := Fits.of_small (by omega) (by decide)
    clear hl8
    go_enter Tryz.func83, Tryz.ntmps83
    go_wp2_with fail
    refine HV.out.mono ?_
    rintro e w2 ⟨rfl, hb2⟩
    rw [HV0.out, show errV 0 = .nilIface from rfl]
    have HB2 : Hid (Below w.heap.size w w2) := HB.out.trans (hb2.mono (by simp))
    have hlt2 : w.heap.size < (w.alloc (.cells #[.int .i64 ((k : Int) + 1), .int .i64 n] 27)).heap.size := by simp
    have HR2 := Lib.hid (HR.out.below HB2.out)
    have HD2 := Lib.hid (HBk.out.below hb2 hlt2)
    obtain ⟨ad, rfl, hbk, c0⟩ := HR2.out.int hkl
    have d0 : w2.cell? ⟨w.heap.size, 0, none⟩ = some (.int .i64 ((k : Int) + 1)) := by rw [HD2.out.cell]; rfl
    have d1 : w2.cell? ⟨w.heap.size, 1, none⟩ = some (.int .i64 n) := by rw [HD2.out.cell]; rfl
    clear hb2 hlt2
    generalize hV : l[k] = v at *
    have HVk := Lib.hid hV
    clear hV
    by_cases h7 : n ≤ v
    · have HE : Hid (addErr l ⟨(k : Int) + 1, n⟩ = 7) := by
        show _ = _
        unfold addErr
        rw [if_neg (fun h => h HV0.out), if_pos (by rw [HN.out]; exact h7)]
      go_wp2_with fail
      go_ret2
      unfold AddPost
      rw [HE.out, if_neg (by decide)]
      exact ⟨rfl, HB2.out⟩
    · by_cases h6 : v < n - 1
      · have HE : Hid (addErr l ⟨(k : Int) + 1, n⟩ = 6) := by
          show _ = _
          unfold addErr
          rw [if_neg (fun h => h HV0.out), if_neg (by rw [HN.out]; exact h7), if_pos (by rw [HN.out]; exact h6)]
        go_wp2_with fail
        go_ret2
        unfold AddPost
        rw [HE.out, if_neg (by decide)]
        exact ⟨rfl, HB2.out⟩
      · have HE : Hid (addErr l ⟨(k : Int) + 1, n⟩ = 0) := by
          show _ = _
          unfold addErr
          rw [if_neg (fun h => h HV0.out), if_neg (by rw [HN.out]; exact h7), if_neg (by rw [HN.out]; exact h6)]
        have HC := Lib.hid (cloneI w2 (some ad) l.length c (ints l) (HR2.out.more HB2.out.size) (oneCells_ints l) hF)
        go_wp2_with fail
        refine HC.out.mono ?_
        rintro e w3 ⟨V, cv, rfl, hO, hb3⟩
        obtain ⟨g, rfl, hg1, hg2⟩ := hO.head (by omega)
        have HO := Lib.hid hO
        have HD3 := Lib.hid (HD2.out.below hb3 HD2.out.lt)
        have HB3 : Hid (Below w.heap.size w w3) := HB2.out.trans (hb3.mono HB2.out.size)
        have hbd : w.heap.size < w2.heap.size := HD2.out.lt
        clear hO hb3 c0 d0 d1
        have d0 : w3.cell? ⟨w.heap.size, 0, none⟩ = some (.int .i64 ((k : Int) + 1)) := by rw [HD3.out.cell]; rfl
        have d1 : w3.cell? ⟨w.heap.size, 1, none⟩ = some (.int .i64 n) := by rw [HD3.out.cell]; rfl
        have e0 : w3.cell? ⟨g, k, none⟩ = some (.int .i64 v) := by rw [HO.out.cellAt (by omega), ints_at (by omega), HVk.out]
        have f0 : w3.frozen? ⟨g, k, none⟩ = false := HO.out.frozenAt k
        go_wp2_with fail
        go_ret2
        unfold AddPost
        rw [HE.out, if_pos rfl]
        refine ⟨_, cv, rfl, ?_, HB3.out.setCell (by show w.heap.size ≤ g; omega) _⟩
        have := (HO.out.store (by omega : k < l.length) (.int .i64 n)).mono (B' := w.heap.size) HB2.out.size
        rw [ints_set] at this
        unfold addRes
        simp only
        rw [show ((k : Int) + 1 - 1).toNat = k by omega]
        exact this
  · have HN := Lib.hid (errV_ne hv)
    have HE : Hid (addErr l ⟨who, n⟩ = vdErr l ⟨who, n⟩ ∧ addErr l ⟨who, n⟩ ≠ 0) := by
      have : addErr l ⟨who, n⟩ = vdErr l ⟨who, n⟩ := if_pos hv
      exact ⟨this, by rw [this]; exact hv⟩
    clear hv
    go_enter Tryz.func83, Tryz.ntmps83
    go_wp2_with fail
    refine HV.out.mono ?_
    rintro e w2 ⟨rfl, hb2⟩
    rw [HN.out]
    go_wp2_with fail
    go_ret2
    unfold AddPost
    rw [if_neg HE.out.2, HE.out.1, HN.out]
    exact ⟨rfl, HB.out.trans (hb2.mono (by simp))⟩
end Go.Proofs.YthfbjfocmnikaaaGreatDoor
/- A right place is short; a store into an owned row. Plain. Conditions: none. -/
namespace Go.Proofs.YthfbjfocmnikaaaGreatDoor
open Go.RowKit
set_option linter.unusedVariables false
theorem place_small {p : ByteArray} (h : placeErr p = 0) : p.size ≤ 12 := by
  unfold placeErr at h
  by_cases h1 : 12 < p.size
  · rw [if_pos h1] at h; omega
  · omega
theorem Own.storeN {w : World} {B : Nat} {e : TypeId} {g n c size : Nat} {xs : List Value} (h : Own w B e size (some ⟨g, 0, none⟩) n c xs) {k : Nat} (hk : k < n * size) (u : Value) : Own (w.setCell ⟨g, k, none⟩ u) B e size (some ⟨g, 0, none⟩) n c (xs.set k u) := by
  obtain ⟨h1, h2⟩ := h
  refine ⟨by rw [List.length_set]; exact h1, ?_⟩
  rcases h2 with ⟨h2, _⟩ | ⟨g', cap, cur, e1, e2, e3, e4, e5, e6, e7⟩
  · cases h2
  · injection e1 with e1 _ ec
    injection e1 with e1
    injection e1 with e1
    subst e1 ec
    refine .inr ⟨g, c, cur.setIfInBounds k u, rfl, e2, Blk.set_ (t := e) e3 k u, e4, e5, by simpa using e6, ?_⟩
    rw [Array.toList_setIfInBounds, ← e7, List.take_set]
def zeros8 : Array Value := #[.int .i64 0, .int .i64 0, .int .i64 0, .int .i64 0, .int .i64 0, .int .i64 0, .int .i64 0, .int .i64 0]
end Go.Proofs.YthfbjfocmnikaaaGreatDoor

/- book.Find, walked. Conditions: a book that is right. -/
import Derived.Test.YthfbjfocmnikaaaGreatDoorBookAt
import Derived.Test.YthfbjfocmnikaaaGreatDoorMark
namespace Go.Proofs.YthfbjfocmnikaaaGreatDoor
open Go.RowKit
set_option linter.unusedVariables false

/-- Places rise, whatever the two. -/
theorem rising_lt {l : List LLeaf} (h : Rising l) : ∀ i j (hi : i < l.length) (hj : j < l.length), i < j → Op.bytesLess l[i].place.toList l[j].place.toList = true := by
  induction l with
  | nil => intro i j hi; simp at hi
  | cons x l ih =>
    obtain ⟨h1, h2⟩ := h
    have first : ∀ j (hj : j < l.length), Op.bytesLess x.place.toList l[j].place.toList = true := by
      intro j hj
      cases l with
      | nil => simp at hj
      | cons y l =>
        have h3 := h1 y rfl
        cases j with
        | zero => exact h3
        | succ j => exact less_trans _ _ _ h3 (ih h2 0 (j + 1) (by simp) hj (by omega))
    intro i j hi hj hij
    cases j with
    | zero => omega
    | succ j =>
      cases i with
      | zero => exact first j (by simpa using hj)
      | succ i => exact ih h2 i j (by simpa using hi) (by simpa using hj) (by omega)
/-- How many leafs are ahead of a place. -/
def ahead (l : List LLeaf) (p : ByteArray) : Nat := (l.filter fun x => Op.bytesLess x.place.toList p.toList).length
def hasAt (l : List LLeaf) (p : ByteArray) : Bool := match l[ahead l p]? with
  | some x => x.place.toList == p.toList
  | none => false
theorem ahead_of {l : List LLeaf} {p : ByteArray} {i : Nat} (hi : i ≤ l.length) (h1 : ∀ j (hj : j < l.length), j < i → Op.bytesLess l[j].place.toList p.toList = true) (h2 : ∀ j (hj : j < l.length), i ≤ j → Op.bytesLess l[j].place.toList p.toList = false) : ahead l p = i := by
  unfold ahead
  have e : l = l.take i ++ l.drop i := (List.take_append_drop i l).symm
  have e1 : (l.take i).filter (fun x => Op.bytesLess x.place.toList p.toList) = l.take i := by
    rw [List.filter_eq_self]
    intro x hx
    obtain ⟨j, hj, rfl⟩ := List.getElem_of_mem hx
    rw [List.length_take] at hj
    simp only [List.getElem_take]
    exact h1 j (by omega) (by omega)
  have e2 : (l.drop i).filter (fun x => Op.bytesLess x.place.toList p.toList) = [] := by
    rw [List.filter_eq_nil_iff]
    intro x hx
    obtain ⟨j, hj, rfl⟩ := List.getElem_of_mem hx
    rw [List.length_drop] at hj
    simp only [List.getElem_drop]
    rw [h2 (i + j) (by omega) (by omega)]
    simp
  rw [e, List.filter_append, e1, e2, List.append_nil, List.length_take]
  omega
theorem ahead_le (l : List LLeaf) (p : ByteArray) : ahead l p ≤ l.length := List.length_filter_le _ _

set_option maxRecDepth 100000 in
theorem cmpLeaf_any (w : World) (x : LLeaf) (p : ByteArray) : Calls Tryz.prog 120 #[.agg #[.string x.place, .int .i64 x.letter, .bool x.struck], .string p] w (CheckPost w (.int .i64 (Lib.compareBytes x.place.data.toList p.data.toList))) := by
  have HC := Lib.hid (fun w => Tryz.strings_Compare x.place p w)
  have HB : Hid (Below w.heap.size w (w.alloc (.cells #[.string x.place, .int .i64 x.letter, .bool x.struck] 115))) := (Below.refl _ _).alloc (Nat.le_refl _) _
  go_enter Tryz.func120, Tryz.ntmps120
  go_wp2_with fail
  refine (HC.out _).mono ?_
  rintro e w1 ⟨rfl, rfl⟩
  go_wp2_with fail
  go_ret
  exact ⟨rfl, HB.out⟩

def FindLoop (w : World) (l : List LLeaf) (p : ByteArray) (x y : Value) (wr : World) : Prop :=
  ∃ i j : Nat, i ≤ j ∧ j ≤ l.length ∧ x = .int .i64 i ∧ y = .int .i64 j ∧ Hid (Below w.heap.size w wr) ∧
    Hid (∀ k (hk : k < l.length), k < i → Op.bytesLess l[k].place.toList p.toList = true) ∧ Hid (∀ k (hk : k < l.length), j ≤ k → Op.bytesLess l[k].place.toList p.toList = false)
def FindPost (w : World) (l : List LLeaf) (p : ByteArray) (e : Ending) (w' : World) : Prop := e = .returned (.tuple #[.int .i64 (ahead l p : Int), .bool (hasAt l p)]) ∧ Below w.heap.size w w'
theorem toList_data (s : ByteArray) : s.toList = s.data.toList := ByteArray.toList_eq ..

set_option maxRecDepth 100000 in
set_option maxHeartbeats 4000000 in
theorem search_any (w : World) (A : Option Addr) (c : Nat) (l : List LLeaf) (p : ByteArray) (h : Reads w w.heap.size 3 A l.length (lcells l)) (hn : l.length ≤ 100000) (hr : Rising l) :
    Calls Tryz.prog 119 #[.slice A l.length c, .string p, .func (Fn.func 120) #[] #[]] w (FindPost w l p) := by
  have HR := Lib.hid h
  have HC := Lib.hid (fun w x => cmpLeaf_any w x p)
  have HRi := Lib.hid (rising_lt hr)
  clear h hr
  go_enter Tryz.func119, Tryz.ntmps119
  go_wp2_with fail
  go_loopw [9, 10] (fun x y wr => FindLoop w l p x y wr) (fun x y _ => (intOf y - intOf x).toNat)
  case atStart => exact ⟨0, l.length, by omega, by omega, rfl, rfl, Below.refl _ _, fun k hk h => by omega, fun k hk h => by omega⟩
  case round =>
    obtain ⟨i, j, hij, hj, rfl, rfl, HB, H1, H2⟩ := hrel
    by_cases hlt : i < j
    · have hlt1 : (i : Int) < (j : Int) := by omega
      have hm1 : i ≤ (i + j) / 2 := by omega
      have hm2 : (i + j) / 2 < j := by omega
      have hml : (i + j) / 2 < l.length := by omega
      have hmi : ((i : Int) + (j : Int)) / 2 < (l.length : Int) := by omega
      have hm0 : (0 : Int) ≤ ((i : Int) + (j : Int)) / 2 := by omega
      obtain ⟨ad, rfl, hb, c0, c1, c2⟩ := (HR.out.below HB.out).leaf hml
      have HX : Hid (∀ k (hk : k < l.length), k < (i + j) / 2 → Op.bytesLess l[k].place.toList l[(i + j) / 2].place.toList = true) := fun k hk h => HRi.out k _ hk hml h
      have HY : Hid (∀ k (hk : k < l.length), (i + j) / 2 < k → Op.bytesLess l[(i + j) / 2].place.toList l[k].place.toList = true) := fun k hk h => HRi.out _ k hml hk h
      have HZ : Hid (∀ k (hk : k < l.length), k = (i + j) / 2 → l[k] = l[(i + j) / 2]) := fun k hk h => by subst h; rfl
      generalize l[(i + j) / 2] = x at c0 c1 c2 HX HY HZ
      have hcl := cmp_less x.place.data.toList p.data.toList
      rw [← toList_data, ← toList_data] at hcl
      have HCL := Lib.hid hcl
      have hrg := cmp_range x.place.data.toList p.data.toList
      rw [← toList_data, ← toList_data] at hrg
      have hr1 := hrg.1
      have hr2 := hrg.2
      have HCx : Hid (∀ w, Calls Tryz.prog 120 #[.agg #[.string x.place, .int .i64 x.letter, .bool x.struck], .string p] w (CheckPost w (.int .i64 (Lib.compareBytes x.place.toList p.toList)))) := fun w => by
        have := HC.out w x
        rw [← toList_data, ← toList_data] at this
        exact this
      clear hcl hrg hm1 hm2
      generalize Lib.compareBytes x.place.toList p.toList = cv at *
      by_cases hneg : cv < 0
      · have HL : Hid (Op.bytesLess x.place.toList p.toList = true) := by show _ = _; rw [← HCL.out]; simpa using hneg
        go_wp2_with fail
        refine (HCx.out _).mono ?_
        rintro e w1 ⟨rfl, hb1⟩
        have HB1 : Hid (Below w.heap.size w w1) := HB.out.trans (hb1.mono HB.out.size)
        clear hb1
        go_wp2_with fail
        go_roundw
        case rel =>
          refine ⟨(i + j) / 2 + 1, j, by omega, hj, by rw [show ((i : Int) + (j : Int)) / 2 + 1 = (((i + j) / 2 + 1 : Nat) : Int) by omega], rfl, HB1, fun k hk h => ?_, H2⟩
          rcases Nat.lt_or_ge k ((i + j) / 2) with h1 | h1
          · exact less_trans _ _ _ (HX.out k hk h1) HL.out
          · rw [HZ.out k hk (by omega)]; exact HL.out
        case measure => simp [intOf]; omega
      · have HL : Hid (Op.bytesLess x.place.toList p.toList = false) := by show _ = _; rw [← HCL.out]; simpa using hneg
        go_wp2_with fail
        refine (HCx.out _).mono ?_
        rintro e w1 ⟨rfl, hb1⟩
        have HB1 : Hid (Below w.heap.size w w1) := HB.out.trans (hb1.mono HB.out.size)
        clear hb1
        go_wp2_with fail
        go_roundw
        case rel =>
          refine ⟨i, (i + j) / 2, by omega, by omega, rfl, by rw [show ((i : Int) + (j : Int)) / 2 = (((i + j) / 2 : Nat) : Int) by omega], HB1, H1, fun k hk h => ?_⟩
          rcases Nat.eq_or_lt_of_le h with h1 | h1
          · rw [HZ.out k hk h1.symm]; exact HL.out
          · cases hh : Op.bytesLess l[k].place.toList p.toList
            · rfl
            · have := less_trans _ _ _ (HY.out k hk h1) hh
              rw [HL.out] at this
              cases this
        case measure => simp [intOf]; omega
    · obtain rfl : i = j := by omega
      have HA : Hid (ahead l p = i) := ahead_of hj (fun k hk h => H1.out k hk h) (fun k hk h => H2.out k hk h)
      clear H1 H2 hlt
      by_cases hil : i < l.length
      · have hi1 : (i : Int) < (l.length : Int) := by omega
        obtain ⟨ad, rfl, hb, c0, c1, c2⟩ := (HR.out.below HB.out).leaf hil
        have HHs : Hid (hasAt l p = (l[i].place.toList == p.toList)) := by
          show _ = _
          unfold hasAt
          rw [HA.out, List.getElem?_eq_getElem hil]
        generalize l[i] = x at c0 c1 c2 HHs
        have hcz := cmp_zero x.place.data.toList p.data.toList
        rw [← toList_data, ← toList_data] at hcz
        have HCZ := Lib.hid hcz
        have HCx : Hid (∀ w, Calls Tryz.prog 120 #[.agg #[.string x.place, .int .i64 x.letter, .bool x.struck], .string p] w (CheckPost w (.int .i64 (Lib.compareBytes x.place.toList p.toList)))) := fun w => by
          have := HC.out w x
          rw [← toList_data, ← toList_data] at this
          exact this
        clear hcz
        generalize Lib.compareBytes x.place.toList p.toList = cv at *
        go_wp2_with fail
        refine (HCx.out _).mono ?_
        rintro e w1 ⟨rfl, hb1⟩
        have HB1 : Hid (Below w.heap.size w w1) := HB.out.trans (hb1.mono HB.out.size)
        clear hb1
        go_wp2_with fail
        go_ret2
        exact ⟨by rw [HA.out, HHs.out, ← HCZ.out]; rfl, HB1.out⟩
      · have hd : decide ((i : Int) < (l.length : Int)) = false := by simp; omega
        have HHs : Hid (hasAt l p = false) := by
          show _ = _
          unfold hasAt
          rw [HA.out, List.getElem?_eq_none (by omega)]
        go_wp2_with fail
        go_ret2
        exact ⟨by rw [HA.out, HHs.out]; rfl, HB.out⟩
set_option maxRecDepth 100000 in
theorem find_any (w : World) (A : Option Addr) (c : Nat) (l : List LLeaf) (p : ByteArray) (h : Reads w w.heap.size 3 A l.length (lcells l)) (hn : l.length ≤ 100000) (hr : Rising l) :
    Calls Tryz.prog 61 #[.slice A l.length c, .string p] w (FindPost w l p) := by
  have HS := Lib.hid (search_any w A c l p h hn hr)
  clear h hr
  go_enter Tryz.func61, Tryz.ntmps61
  go_wp2_with fail
  refine HS.out.mono ?_
  rintro e w1 ⟨rfl, hb1⟩
  go_wp2_with fail
  go_ret2
  exact ⟨rfl, hb1⟩
end Go.Proofs.YthfbjfocmnikaaaGreatDoor

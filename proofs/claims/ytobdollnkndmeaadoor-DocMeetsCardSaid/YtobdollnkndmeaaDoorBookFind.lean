/- 2 texts in one: each says ahead of itself what is proved, and its conditions. -/
import Derived.Test.YtobdollnkndmeaaDoorBookText
import Derived.Test.YtobdollnkndmeaaDoorLess
import Derived.Test.YtobdollnkndmeaaDoorShelfCmp
/- book.Text, Nth, At, walked; what a book that is right has. Conditions: stated with each. -/
namespace Go.Proofs.YtobdollnkndmeaaDoor
open Go.RowKit
set_option linter.unusedVariables false

/-- A leaf that is right. -/
structure LLeaf.Ok (x : LLeaf) : Prop where
  place : placeErr x.place = 0
  letter : x.letter ≠ 0 → 32 ≤ x.letter ∧ x.letter ≤ 126
  struck : x.letter = 0 → x.struck = true
theorem leaf_ok {prev : Option LLeaf} {x : LLeaf} (h : leafErr prev x = 0) : x.Ok ∧ ∀ p, prev = some p → Op.bytesLess p.place.toList x.place.toList = true := by
  unfold leafErr at h
  by_cases h1 : placeErr x.place ≠ 0
  · rw [if_pos h1] at h; exact absurd h h1
  rw [if_neg h1] at h
  by_cases h2 : x.letter ≠ 0 ∧ letterB x.letter = false
  · rw [if_pos h2] at h; omega
  rw [if_neg h2] at h
  by_cases h3 : x.letter = 0 ∧ x.struck = false
  · rw [if_pos h3] at h; omega
  rw [if_neg h3] at h
  refine ⟨⟨by omega, fun hn => ?_, fun hn => ?_⟩, ?_⟩
  · have hl : letterB x.letter = true := by
      cases hl : letterB x.letter
      · exact absurd ⟨hn, hl⟩ h2
      · rfl
    simp [letterB] at hl
    exact hl
  · cases hs : x.struck
    · exact absurd ⟨hn, hs⟩ h3
    · rfl
  · rintro p rfl
    cases hl : Op.bytesLess p.place.toList x.place.toList
    · rw [if_pos hl] at h; omega
    · rfl
/-- Places rise. -/
def Rising : List LLeaf → Prop
  | [] => True
  | x :: l => (∀ y, l.head? = some y → Op.bytesLess x.place.toList y.place.toList = true) ∧ Rising l
theorem fault_ok {prev : Option LLeaf} {l : List LLeaf} (h : bookFault prev l = 0) : (∀ x ∈ l, x.Ok) ∧ Rising l ∧ ∀ p y, prev = some p → l.head? = some y → Op.bytesLess p.place.toList y.place.toList = true := by
  induction l generalizing prev with
  | nil => exact ⟨by simp, trivial, by simp⟩
  | cons x l ih =>
    rw [bookFault] at h
    by_cases h1 : leafErr prev x ≠ 0
    · rw [if_pos h1] at h; exact absurd h h1
    · rw [if_neg h1] at h
      obtain ⟨i1, i2, i3⟩ := ih h
      obtain ⟨k1, k2⟩ := leaf_ok (show leafErr prev x = 0 by omega)
      refine ⟨fun y hy => ?_, ⟨fun y hy => i3 x y rfl hy, i2⟩, fun p y hp hy => ?_⟩
      · rcases List.mem_cons.1 hy with rfl | hy
        · exact k1
        · exact i1 y hy
      · simp at hy; subst hy; exact k2 p hp
structure BookOk (l : List LLeaf) : Prop where
  few : l.length ≤ 300
  leafs : ∀ x ∈ l, x.Ok
  rising : Rising l
theorem book_ok {l : List LLeaf} (h : bookErr l = 0) : BookOk l := by
  unfold bookErr at h
  by_cases h1 : 300 < l.length
  · rw [if_pos h1] at h; omega
  · rw [if_neg h1] at h
    obtain ⟨i1, i2, _⟩ := fault_ok h
    exact ⟨by omega, i1, i2⟩
theorem BookOk.fit {l : List LLeaf} (h : BookOk l) : Fit l := by
  intro x hx hs
  have hn : x.letter ≠ 0 := by
    intro h0
    simp [seenB, h0] at hs
  have := (h.leafs x hx).letter hn
  omega
theorem Fit.sub {l m : List LLeaf} (h : Fit l) (hm : ∀ x ∈ m, x ∈ l) : Fit m := fun x hx => h x (hm x hx)

def TextPost (w : World) (l : List LLeaf) (e : Ending) (w' : World) : Prop := e = .returned (.tuple #[.string (if bookErr l = 0 then textOf l else ⟨#[]⟩), errV (bookErr l)]) ∧ Below w.heap.size w w'
/-- The place in the list of the o-th leaf that is seen, from k on; below 0: none. -/
def nthFrom : Nat → List LLeaf → Int → Int
  | _, [], _ => -1
  | k, x :: l, o => if seenB x = true then (if o = 0 then (k : Int) else nthFrom (k + 1) l (o - 1)) else nthFrom (k + 1) l o
def NthLoop (w : World) (l : List LLeaf) (off : Int) (x i : Value) (wr : World) : Prop :=
  ∃ (k : Nat) (o : Int), k ≤ l.length ∧ i = .int .i64 k ∧ x = .int .i64 o ∧ 0 ≤ o ∧ o ≤ off ∧ Hid (Below w.heap.size w wr) ∧ Hid (nthFrom 0 l off = nthFrom k (l.drop k) o)
/-- The place in the list of an offset; the fault. -/
def atErr (l : List LLeaf) (off : Int) : Int := if bookErr l ≠ 0 then bookErr l else if off < 0 ∨ nthFrom 0 l off < 0 then 1 else 0
def AtPost (w : World) (l : List LLeaf) (off : Int) (e : Ending) (w' : World) : Prop := e = .returned (.tuple #[.int .i64 (if atErr l off = 0 then nthFrom 0 l off else 0), errV (atErr l off)]) ∧ Below w.heap.size w w'
end Go.Proofs.YtobdollnkndmeaaDoor
/- book.Find, walked. Conditions: a book that is right. -/
namespace Go.Proofs.YtobdollnkndmeaaDoor
open Go.RowKit
set_option linter.unusedVariables false

/-- Places rise, whatever the two. -/
theorem rising_lt {l : List LLeaf} (h : Rising l) : ∀ i j (hi : i < l.length) (hj : j < l.length), i < j → Op.bytesLess l[i].place.toList l[j].place.toList = true := by
  induction l with
  | nil => intro i j hi; simp at hi
  | cons x l ih =>
    obtain ⟨h1, h2⟩ := h
    have first : ∀ j (hj : j < l.length), Op.bytesLess x.place.toList l[j].place.toList = true := by
      intro j hj
      cases l with
      | nil => simp at hj
      | cons y l =>
        have h3 := h1 y rfl
        cases j with
        | zero => exact h3
        | succ j => exact less_trans _ _ _ h3 (ih h2 0 (j + 1) (by simp) hj (by omega))
    intro i j hi hj hij
    cases j with
    | zero => omega
    | succ j =>
      cases i with
      | zero => exact first j (by simpa using hj)
      | succ i => exact ih h2 i j (by simpa using hi) (by simpa using hj) (by omega)
/-- How many leafs are ahead of a place. -/
def ahead (l : List LLeaf) (p : ByteArray) : Nat := (l.filter fun x => Op.bytesLess x.place.toList p.toList).length
def hasAt (l : List LLeaf) (p : ByteArray) : Bool := match l[ahead l p]? with
  | some x => x.place.toList == p.toList
  | none => false
theorem ahead_of {l : List LLeaf} {p : ByteArray} {i : Nat} (hi : i ≤ l.length) (h1 : ∀ j (hj : j < l.length), j < i → Op.bytesLess l[j].place.toList p.toList = true) (h2 : ∀ j (hj : j < l.length), i ≤ j → Op.bytesLess l[j].place.toList p.toList = false) : ahead l p = i := by
  unfold ahead
  have e : l = l.take i ++ l.drop i := (List.take_append_drop i l).symm
  have e1 : (l.take i).filter (fun x => Op.bytesLess x.place.toList p.toList) = l.take i := by
    rw [List.filter_eq_self]
    intro x hx
    obtain ⟨j, hj, rfl⟩ := List.getElem_of_mem hx
    rw [List.length_take] at hj
    simp only [List.getElem_take]
    exact h1 j (by omega) (by omega)
  have e2 : (l.drop i).filter (fun x => Op.bytesLess x.place.toList p.toList) = [] := by
    rw [List.filter_eq_nil_iff]
    intro x hx
    obtain ⟨j, hj, rfl⟩ := List.getElem_of_mem hx
    rw [List.length_drop] at hj
    simp only [List.getElem_drop]
    rw [h2 (i + j) (by omega) (by omega)]
    simp
  rw [e, List.filter_append, e1, e2, List.append_nil, List.length_take]
  omega
theorem ahead_le (l : List LLeaf) (p : ByteArray) : ahead l p ≤ l.length := List.length_filter_le _ _

set_option maxRecDepth 100000 in
theorem cmpLeaf_any (w : World) (x : LLeaf) (p : ByteArray) : Calls Tryd.prog 61 #[.agg #[.string x.place, .int .i64 x.letter, .bool x.struck], .string p] w (CheckPost w (.int .i64 (Lib.compareBytes x.place.data.toList p.data.toList))) := by
  have HC := Lib.hid (fun w => Tryd.strings_Compare x.place p w)
  have HB : Hid (Below w.heap.size w (w.alloc (.cells #[.string x.place, .int .i64 x.letter, .bool x.struck] 58))) := (Below.refl _ _).alloc (Nat.le_refl _) _
  go_enter Tryd.func61, Tryd.ntmps61
  go_wp2_with fail
  refine (HC.out _).mono ?_
  rintro e w1 ⟨rfl, rfl⟩
  go_wp2_with fail
  go_ret
  exact ⟨rfl, HB.out⟩

def FindLoop (w : World) (l : List LLeaf) (p : ByteArray) (x y : Value) (wr : World) : Prop :=
  ∃ i j : Nat, i ≤ j ∧ j ≤ l.length ∧ x = .int .i64 i ∧ y = .int .i64 j ∧ Hid (Below w.heap.size w wr) ∧
    Hid (∀ k (hk : k < l.length), k < i → Op.bytesLess l[k].place.toList p.toList = true) ∧ Hid (∀ k (hk : k < l.length), j ≤ k → Op.bytesLess l[k].place.toList p.toList = false)
def FindPost (w : World) (l : List LLeaf) (p : ByteArray) (e : Ending) (w' : World) : Prop := e = .returned (.tuple #[.int .i64 (ahead l p : Int), .bool (hasAt l p)]) ∧ Below w.heap.size w w'
theorem toList_data (s : ByteArray) : s.toList = s.data.toList := ByteArray.toList_eq ..

set_option maxRecDepth 100000 in
set_option maxHeartbeats 4000000 in
theorem search_any (w : World) (A : Option Addr) (c : Nat) (l : List LLeaf) (p : ByteArray) (h : Reads w w.heap.size 3 A l.length (lcells l)) (hn : l.length ≤ 100000) (hr : Rising l) :
    Calls Tryd.prog 60 #[.slice A l.length c, .string p, .func (Fn.func 61) #[] #[]] w (FindPost w l p) := by
  have HR := Lib.hid h
  have HC := Lib.hid (fun w x => cmpLeaf_any w x p)
  have HRi := Lib.hid (rising_lt hr)
  clear h hr
  go_enter Tryd.func60, Tryd.ntmps60
  go_wp2_with fail
  go_loopw [9, 10] (fun x y wr => FindLoop w l p x y wr) (fun x y _ => (intOf y - intOf x).toNat)
  case atStart => exact ⟨0, l.length, by omega, by omega, rfl, rfl, Below.refl _ _, fun k hk h => by omega, fun k hk h => by omega⟩
  case round =>
    obtain ⟨i, j, hij, hj, rfl, rfl, HB, H1, H2⟩ := hrel
    by_cases hlt : i < j
    · have hlt1 : (i : Int) < (j : Int) := by omega
      have hm1 : i ≤ (i + j) / 2 := by omega
      have hm2 : (i + j) / 2 < j := by omega
      have hml : (i + j) / 2 < l.length := by omega
      have hmi : ((i : Int) + (j : Int)) / 2 < (l.length : Int) := by omega
      have hm0 : (0 : Int) ≤ ((i : Int) + (j : Int)) / 2 := by omega
      obtain ⟨ad, rfl, hb, c0, c1, c2⟩ := (HR.out.below HB.out).leaf hml
      have HX : Hid (∀ k (hk : k < l.length), k < (i + j) / 2 → Op.bytesLess l[k].place.toList l[(i + j) / 2].place.toList = true) := fun k hk h => HRi.out k _ hk hml h
      have HY : Hid (∀ k (hk : k < l.length), (i + j) / 2 < k → Op.bytesLess l[(i + j) / 2].place.toList l[k].place.toList = true) := fun k hk h => HRi.out _ k hml hk h
      have HZ : Hid (∀ k (hk : k < l.length), k = (i + j) / 2 → l[k] = l[(i + j) / 2]) := fun k hk h => by subst h; rfl
      generalize l[(i + j) / 2] = x at c0 c1 c2 HX HY HZ
      have hcl := cmp_less x.place.data.toList p.data.toList
      rw [← toList_data, ← toList_data] at hcl
      have HCL := Lib.hid hcl
      have hrg := cmp_range x.place.data.toList p.data.toList
      rw [← toList_data, ← toList_data] at hrg
      have hr1 := hrg.1
      have hr2 := hrg.2
      have HCx : Hid (∀ w, Calls Tryd.prog 61 #[.agg #[.string x.place, .int .i64 x.letter, .bool x.struck], .string p] w (CheckPost w (.int .i64 (Lib.compareBytes x.place.toList p.toList)))) := fun w => by
        have := HC.out w x
        rw [← toList_data, ← toList_data] at this
        exact this
      clear hcl hrg hm1 hm2
      generalize Lib.compareBytes x.place.toList p.toList = cv at *
      by_cases hneg : cv < 0
      · have HL : Hid (Op.bytesLess x.place.toList p.toList = true) := by show _ = _; rw [← HCL.out]; simpa using hneg
        go_wp2_with fail
        refine (HCx.out _).mono ?_
        rintro e w1 ⟨rfl, hb1⟩
        have HB1 : Hid (Below w.heap.size w w1) := HB.out.trans (hb1.mono HB.out.size)
        clear hb1
        go_wp2_with fail
        go_roundw
        case rel =>
          refine ⟨(i + j) / 2 + 1, j, by omega, hj, by rw [show ((i : Int) + (j : Int)) / 2 + 1 = (((i + j) / 2 + 1 : Nat) : Int) by omega], rfl, HB1, fun k hk h => ?_, H2⟩
          rcases Nat.lt_or_ge k ((i + j) / 2) with h1 | h1
          · exact less_trans _ _ _ (HX.out k hk h1) HL.out
          · rw [HZ.out k hk (by omega)]; exact HL.out
        case measure => simp [intOf]; omega
      · have HL : Hid (Op.bytesLess x.place.toList p.toList = false) := by show _ = _; rw [← HCL.out]; simpa using hneg
        go_wp2_with fail
        refine (HCx.out _).mono ?_
        rintro e w1 ⟨rfl, hb1⟩
        have HB1 : Hid (Below w.heap.size w w1) := HB.out.trans (hb1.mono HB.out.size)
        clear hb1
        go_wp2_with fail
        go_roundw
        case rel =>
          refine ⟨i, (i + j) / 2, by omega, by omega, rfl, by rw [show ((i : Int) + (j : Int)) / 2 = (((i + j) / 2 : Nat) : Int) by omega], HB1, H1, fun k hk h => ?_⟩
          rcases Nat.eq_or_lt_of_le h with h1 | h1
          · rw [HZ.out k hk h1.symm]; exact HL.out
          · cases hh : Op.bytesLess l[k].place.toList p.toList
            · rfl
            · have := less_trans _ _ _ (HY.out k hk h1) hh
              rw [HL.out] at this
              cases this
        case measure => simp [intOf]; omega
    · obtain rfl : i = j := by omega
      have HA : Hid (ahead l p = i) := ahead_of hj (fun k hk h => H1.out k hk h) (fun k hk h => H2.out k hk h)
      clear H1 H2 hlt
      by_cases hil : i < l.length
      · have hi1 : (i : Int) < (l.length : Int) := by omega
        obtain ⟨ad, rfl, hb, c0, c1, c2⟩ := (HR.out.below HB.out).leaf hil
        have HHs : Hid (hasAt l p = (l[i].place.toList == p.toList)) := by
          show _ = _
          unfold hasAt
          rw [HA.out, List.getElem?_eq_getElem hil]
        generalize l[i] = x at c0 c1 c2 HHs
        have hcz := cmp_zero x.place.data.toList p.data.toList
        rw [← toList_data, ← toList_data] at hcz
        have HCZ := Lib.hid hcz
        have HCx : Hid (∀ w, Calls Tryd.prog 61 #[.agg #[.string x.place, .int .i64 x.letter, .bool x.struck], .string p] w (CheckPost w (.int .i64 (Lib.compareBytes x.place.toList p.toList)))) := fun w => by
          have := HC.out w x
          rw [← toList_data, ← toList_data] at this
          exact this
        clear hcz
        generalize Lib.compareBytes x.place.toList p.toList = cv at *
        go_wp2_with fail
        refine (HCx.out _).mono ?_
        rintro e w1 ⟨rfl, hb1⟩
        have HB1 : Hid (Below w.heap.size w w1) := HB.out.trans (hb1.mono HB.out.size)
        clear hb1
        go_wp2_with fail
        go_ret2
        exact ⟨by rw [HA.out, HHs.out, ← HCZ.out]; rfl, HB1.out⟩
      · have hd : decide ((i : Int) < (l.length : Int)) = false := by simp; omega
        have HHs : Hid (hasAt l p = false) := by
          show _ = _
          unfold hasAt
          rw [HA.out, List.getElem?_eq_none (by omega)]
        go_wp2_with fail
        go_ret2
        exact ⟨by rw [HA.out, HHs.out]; rfl, HB.out⟩
set_option maxRecDepth 100000 in
theorem find_any (w : World) (A : Option Addr) (c : Nat) (l : List LLeaf) (p : ByteArray) (h : Reads w w.heap.size 3 A l.length (lcells l)) (hn : l.length ≤ 100000) (hr : Rising l) :
    Calls Tryd.prog 41 #[.slice A l.length c, .string p] w (FindPost w l p) := by
  have HS := Lib.hid (search_any w A c l p h hn hr)
  clear h hr
  go_enter Tryd.func41, Tryd.ntmps41
  go_wp2_with fail
  refine HS.out.mono ?_
  rintro e w1 ⟨rfl, hb1⟩
  go_wp2_with fail
  go_ret2
  exact ⟨rfl, hb1⟩
end Go.Proofs.YtobdollnkndmeaaDoor

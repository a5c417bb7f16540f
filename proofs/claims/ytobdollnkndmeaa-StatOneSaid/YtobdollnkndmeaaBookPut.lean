/- 2 texts in one: each says ahead of itself what is proved, and its conditions. -/
import Derived.Test.YtobdollnkndmeaaBookAt
import Derived.Test.YtobdollnkndmeaaInsLeaf
import Derived.Test.YtobdollnkndmeaaLess
import Derived.Test.YtobdollnkndmeaaShelfCmp
/- book.Find, walked. Conditions: a book that is right. -/
namespace Go.Proofs.Ytobdollnkndmeaa
open Go.RowKit
set_option linter.unusedVariables false

/-- Places rise, whatever the two. -/
theorem rising_lt {l : List LLeaf} (h : Rising l) : ∀ i j (hi : i < l.length) (hj : j < l.length), i < j → Op.bytesLess l[i].place.toList l[j].place.toList = true := by
  induction l with
  | nil => intro i j hi; simp at hi
  | cons x l ih =>
    obtain ⟨h1, h2⟩ := h
    have first : ∀ j (hj : j < l.length), Op.bytesLess x.place.toList l[j].place.toList = true := by
      intro j hj
      cases l with
      | nil => simp at hj
      | cons y l =>
        have h3 := h1 y rfl
        cases j with
        | zero => exact h3
        | succ j => exact less_trans _ _ _ h3 (ih h2 0 (j + 1) (by simp) hj (by omega))
    intro i j hi hj hij
    cases j with
    | zero => omega
    | succ j =>
      cases i with
      | zero => exact first j (by simpa using hj)
      | succ i => exact ih h2 i j (by simpa using hi) (by simpa using hj) (by omega)
/-- How many leafs are ahead of a place. -/
def ahead (l : List LLeaf) (p : ByteArray) : Nat := (l.filter fun x => Op.bytesLess x.place.toList p.toList).length
def hasAt (l : List LLeaf) (p : ByteArray) : Bool := match l[ahead l p]? with
  | some x => x.place.toList == p.toList
  | none => false
theorem ahead_of {l : List LLeaf} {p : ByteArray} {i : Nat} (hi : i ≤ l.length) (h1 : ∀ j (hj : j < l.length), j < i → Op.bytesLess l[j].place.toList p.toList = true) (h2 : ∀ j (hj : j < l.length), i ≤ j → Op.bytesLess l[j].place.toList p.toList = false) : ahead l p = i := by
  unfold ahead
  have e : l = l.take i ++ l.drop i := (List.take_append_drop i l).symm
  have e1 : (l.take i).filter (fun x => Op.bytesLess x.place.toList p.toList) = l.take i := by
    rw [List.filter_eq_self]
    intro x hx
    obtain ⟨j, hj, rfl⟩ := List.getElem_of_mem hx
    rw [List.length_take] at hj
    simp only [List.getElem_take]
    exact h1 j (by omega) (by omega)
  have e2 : (l.drop i).filter (fun x => Op.bytesLess x.place.toList p.toList) = [] := by
    rw [List.filter_eq_nil_iff]
    intro x hx
    obtain ⟨j, hj, rfl⟩ := List.getElem_of_mem hx
    rw [List.length_drop] at hj
    simp only [List.getElem_drop]
    rw [h2 (i + j) (by omega) (by omega)]
    simp
  rw [e, List.filter_append, e1, e2, List.append_nil, List.length_take]
  omega
theorem ahead_le (l : List LLeaf) (p : ByteArray) : ahead l p ≤ l.length := List.length_filter_le _ _

set_option maxRecDepth 100000 in
theorem cmpLeaf_any (w : World) (x : LLeaf) (p : ByteArray) : Calls Try.prog 80 #[.agg #[.string x.place, .int .i64 x.letter, .bool x.struck], .string p] w (CheckPost w (.int .i64 (Lib.compareBytes x.place.data.toList p.data.toList))) := by
  have HC := Lib.hid (fun w => Try.strings_Compare x.place p w)
  have HB : Hid (Below w.heap.size w (w.alloc (.cells #[.string x.place, .int .i64 x.letter, .bool x.struck] 29))) := (Below.refl _ _).alloc (Nat.le_refl _) _
  go_enter Try.func80, Try.ntmps80
  go_wp2_with fail
  refine (HC.out _).mono ?_
  rintro e w1 ⟨rfl, rfl⟩
  go_wp2_with fail
  go_ret
  exact ⟨rfl, HB.out⟩

def FindLoop (w : World) (l : List LLeaf) (p : ByteArray) (x y : Value) (wr : World) : Prop :=
  ∃ i j : Nat, i ≤ j ∧ j ≤ l.length ∧ x = .int .i64 i ∧ y = .int .i64 j ∧ Hid (Below w.heap.size w wr) ∧
    Hid (∀ k (hk : k < l.length), k < i → Op.bytesLess l[k].place.toList p.toList = true) ∧ Hid (∀ k (hk : k < l.length), j ≤ k → Op.bytesLess l[k].place.toList p.toList = false)
def FindPost (w : World) (l : List LLeaf) (p : ByteArray) (e : Ending) (w' : World) : Prop := e = .returned (.tuple #[.int .i64 (ahead l p : Int), .bool (hasAt l p)]) ∧ Below w.heap.size w w'
theorem toList_data (s : ByteArray) : s.toList = s.data.toList := ByteArray.toList_eq ..

set_option maxRecDepth 100000 in
set_option maxHeartbeats 4000000 in
theorem search_any (w : World) (A : Option Addr) (c : Nat) (l : List LLeaf) (p : ByteArray) (h : Reads w w.heap.size 3 A l.length (lcells l)) (hn : l.length ≤ 100000) (hr : Rising l) :
    Calls Try.prog 79 #[.slice A l.length c, .string p, .func (Fn.func 80) #[] #[]] w (FindPost w l p) := by
  have HR := Lib.hid h
  have HC := Lib.hid (fun w x => cmpLeaf_any w x p)
  have HRi := Lib.hid (rising_lt hr)
  clear h hr
  go_enter Try.func79, Try.ntmps79
  go_wp2_with fail
  go_loopw [9, 10] (fun x y wr => FindLoop w l p x y wr) (fun x y _ => (intOf y - intOf x).toNat)
  case atStart => exact ⟨0, l.length, by omega, by omega, rfl, rfl, Below.refl _ _, fun k hk h => by omega, fun k hk h => by omega⟩
  case round =>
    obtain ⟨i, j, hij, hj, rfl, rfl, HB, H1, H2⟩ := hrel
    by_cases hlt : i < j
    · have hlt1 : (i : Int) < (j : Int) := by omega
      have hm1 : i ≤ (i + j) / 2 := by omega
      have hm2 : (i + j) / 2 < j := by omega
      have hml : (i + j) / 2 < l.length := by omega
      have hmi : ((i : Int) + (j : Int)) / 2 < (l.length : Int) := by omega
      have hm0 : (0 : Int) ≤ ((i : Int) + (j : Int)) / 2 := by omega
      obtain ⟨ad, rfl, hb, c0, c1, c2⟩ := (HR.out.below HB.out).leaf hml
      have HX : Hid (∀ k (hk : k < l.length), k < (i + j) / 2 → Op.bytesLess l[k].place.toList l[(i + j) / 2].place.toList = true) := fun k hk h => HRi.out k _ hk hml h
      have HY : Hid (∀ k (hk : k < l.length), (i + j) / 2 < k → Op.bytesLess l[(i + j) / 2].place.toList l[k].place.toList = true) := fun k hk h => HRi.out _ k hml hk h
      have HZ : Hid (∀ k (hk : k < l.length), k = (i + j) / 2 → l[k] = l[(i + j) / 2]) := fun k hk h => by subst h; rfl
      generalize l[(i + j) / 2] = x at c0 c1 c2 HX HY HZ
      have hcl := cmp_less x.place.data.toList p.data.toList
      rw [← toList_data, ← toList_data] at hcl
      have HCL := Lib.hid hcl
      have hrg := cmp_range x.place.data.toList p.data.toList
      rw [← toList_data, ← toList_data] at hrg
      have hr1 := hrg.1
      have hr2 := hrg.2
      have HCx : Hid (∀ w, Calls Try.prog 80 #[.agg #[.string x.place, .int .i64 x.letter, .bool x.struck], .string p] w (CheckPost w (.int .i64 (Lib.compareBytes x.place.toList p.toList)))) := fun w => by
        have := HC.out w x
        rw [← toList_data, ← toList_data] at this
        exact this
      clear hcl hrg hm1 hm2
      generalize Lib.compareBytes x.place.toList p.toList = cv at *
      by_cases hneg : cv < 0
      · have HL : Hid (Op.bytesLess x.place.toList p.toList = true) := by show _ = _; rw [← HCL.out]; simpa using hneg
        go_wp2_with fail
        refine (HCx.out _).mono ?_
        rintro e w1 ⟨rfl, hb1⟩
        have HB1 : Hid (Below w.heap.size w w1) := HB.out.trans (hb1.mono HB.out.size)
        clear hb1
        go_wp2_with fail
        go_roundw
        case rel =>
          refine ⟨(i + j) / 2 + 1, j, by omega, hj, by rw [show ((i : Int) + (j : Int)) / 2 + 1 = (((i + j) / 2 + 1 : Nat) : Int) by omega], rfl, HB1, fun k hk h => ?_, H2⟩
          rcases Nat.lt_or_ge k ((i + j) / 2) with h1 | h1
          · exact less_trans _ _ _ (HX.out k hk h1) HL.out
          · rw [HZ.out k hk (by omega)]; exact HL.out
        case measure => simp [intOf]; omega
      · have HL : Hid (Op.bytesLess x.place.toList p.toList = false) := by show _ = _; rw [← HCL.out]; simpa using hneg
        go_wp2_with fail
        refine (HCx.out _).mono ?_
        rintro e w1 ⟨rfl, hb1⟩
        have HB1 : Hid (Below w.heap.size w w1) := HB.out.trans (hb1.mono HB.out.size)
        clear hb1
        go_wp2_with fail
        go_roundw
        case rel =>
          refine ⟨i, (i + j) / 2, by omega, by omega, rfl, by rw [show ((i : Int) + (j : Int)) / 2 = (((i + j) / 2 : Nat) : Int) by omega], HB1, H1, fun k hk h => ?_⟩
          rcases Nat.eq_or_lt_of_le h with h1 | h1
          · rw [HZ.out k hk h1.symm]; exact HL.out
          · cases hh : Op.bytesLess l[k].place.toList p.toList
            · rfl
            · have := less_trans _ _ _ (HY.out k hk h1) hh
              rw [HL.out] at this
              cases this
        case measure => simp [intOf]; omega
    · obtain rfl : i = j := by omega
      have HA : Hid (ahead l p = i) := ahead_of hj (fun k hk h => H1.out k hk h) (fun k hk h => H2.out k hk h)
      clear H1 H2 hlt
      by_cases hil : i < l.length
      · have hi1 : (i : Int) < (l.length : Int) := by omega
        obtain ⟨ad, rfl, hb, c0, c1, c2⟩ := (HR.out.below HB.out).leaf hil
        have HHs : Hid (hasAt l p = (l[i].place.toList == p.toList)) := by
          show _ = _
          unfold hasAt
          rw [HA.out, List.getElem?_eq_getElem hil]
        generalize l[i] = x at c0 c1 c2 HHs
        have hcz := cmp_zero x.place.data.toList p.data.toList
        rw [← toList_data, ← toList_data] at hcz
        have HCZ := Lib.hid hcz
        have HCx : Hid (∀ w, Calls Try.prog 80 #[.agg #[.string x.place, .int .i64 x.letter, .bool x.struck], .string p] w (CheckPost w (.int .i64 (Lib.compareBytes x.place.toList p.toList)))) := fun w => by
          have := HC.out w x
          rw [← toList_data, ← toList_data] at this
          exact this
        clear hcz
        generalize Lib.compareBytes x.place.toList p.toList = cv at *
        go_wp2_with fail
        refine (HCx.out _).mono ?_
        rintro e w1 ⟨rfl, hb1⟩
        have HB1 : Hid (Below w.heap.size w w1) := HB.out.trans (hb1.mono HB.out.size)
        clear hb1
        go_wp2_with fail
        go_ret2
        exact ⟨by rw [HA.out, HHs.out, ← HCZ.out]; rfl, HB1.out⟩
      · have hd : decide ((i : Int) < (l.length : Int)) = false := by simp; omega
        have HHs : Hid (hasAt l p = false) := by
          show _ = _
          unfold hasAt
          rw [HA.out, List.getElem?_eq_none (by omega)]
        go_wp2_with fail
        go_ret2
        exact ⟨by rw [HA.out, HHs.out]; rfl, HB.out⟩
set_option maxRecDepth 100000 in
theorem find_any (w : World) (A : Option Addr) (c : Nat) (l : List LLeaf) (p : ByteArray) (h : Reads w w.heap.size 3 A l.length (lcells l)) (hn : l.length ≤ 100000) (hr : Rising l) :
    Calls Try.prog 49 #[.slice A l.length c, .string p] w (FindPost w l p) := by
  have HS := Lib.hid (search_any w A c l p h hn hr)
  clear h hr
  go_enter Try.func49, Try.ntmps49
  go_wp2_with fail
  refine HS.out.mono ?_
  rintro e w1 ⟨rfl, hb1⟩
  go_wp2_with fail
  go_ret2
  exact ⟨rfl, hb1⟩
end Go.Proofs.Ytobdollnkndmeaa
/- slices.Clone of leafs, book.put, book.ready, walked. Conditions: a book that is not too long. -/
namespace Go.Proofs.Ytobdollnkndmeaa
open Go.RowKit
set_option linter.unusedVariables false
def ClonePost (w : World) (e0 : TypeId) (size n : Nat) (xs : List Value) (e : Ending) (w' : World) : Prop := ∃ A' c', e = .returned (.slice A' n c') ∧ Own w' w.heap.size e0 size A' n c' xs ∧ Below w.heap.size w w'
set_option maxRecDepth 100000 in
theorem cloneL (w : World) (B : Nat) (A : Option Addr) (n c : Nat) (xs : List Value) (hr : Reads w B 3 A n xs) (h1 : OneCells xs) (hf : Fits n 32) (hB : B ≤ w.heap.size) :
    Calls Try.prog 41 #[.slice A n c] w (ClonePost w 29 3 n xs) := by
  have HF : Fits (0 + n) 32 := by simpa using hf
  have HR := hr.alloc hB (.cells #[] 29)
  cases A with
  | none =>
    have he := Lib.run_eql_slice_nil (P := Try.prog) w 30 29 none n c 0 0 Try.underlying30
    go_enter Try.func41, Try.ntmps41
    go_wp2
    go_ret
    have hn : n = 0 := by
      rcases Nat.eq_zero_or_pos n with h | h
      · exact h
      · obtain ⟨_, h, _⟩ := hr.2 h; cases h
    subst hn
    have hx : xs = [] := List.eq_nil_of_length_eq_zero (by simpa using hr.1)
    subst hx
    exact ⟨none, 0, rfl, Own.nil _ _ _ _, Below.refl _ _⟩
  | some ad =>
    have heS := Lib.run_eql_slice_nil (P := Try.prog) w 30 29 (some ad) n c 0 0 Try.underlying30
    go_enter Try.func41, Try.ntmps41
    go_wp2_with (at_builtin; refine wpList_app _ (.tmp 5) (.tmp 6) rfl rfl InsLeaf.elem rfl rfl (Own.made w 29 w.heap.size (Nat.le_refl _) 3) HR h1 HF (by simp) ?_; intro A' c' w1 HO HL HB)
    go_ret
    refine ⟨A', c', rfl, by simpa using HO, ?_⟩
    exact ((Below.refl _ _).alloc (Nat.le_refl _) _).trans (HL.below (by simp) (by simp [ob]))

/-- A book with one leaf more. -/
def bookPut (l : List LLeaf) (i : Nat) (x : LLeaf) : List LLeaf := l.take i ++ x :: l.drop i
theorem lcells_take (l : List LLeaf) (i : Nat) : (lcells l).take (i * 3) = lcells (l.take i) := by
  induction l generalizing i with
  | nil => simp [lcells]
  | cons x l ih =>
    cases i with
    | zero => simp [lcells]
    | succ i =>
      show (x.cells ++ lcells l).take ((i + 1) * 3) = x.cells ++ lcells (l.take i)
      rw [← ih, List.take_append, List.take_of_length_le (by simp [LLeaf.cells]; omega), show (i + 1) * 3 - x.cells.length = i * 3 by simp [LLeaf.cells]; omega]
theorem lcells_drop (l : List LLeaf) (i : Nat) : (lcells l).drop (i * 3) = lcells (l.drop i) := by
  induction l generalizing i with
  | nil => simp [lcells]
  | cons x l ih =>
    cases i with
    | zero => simp [lcells]
    | succ i =>
      show (x.cells ++ lcells l).drop ((i + 1) * 3) = lcells (l.drop i)
      rw [← ih, List.drop_append, List.drop_of_length_le (by simp [LLeaf.cells]; omega), show (i + 1) * 3 - x.cells.length = i * 3 by simp [LLeaf.cells]; omega, List.nil_append]
theorem lcells_put (l : List LLeaf) (i : Nat) (x : LLeaf) : (lcells l).take (i * 3) ++ x.cells ++ (lcells l).drop (i * 3) = lcells (bookPut l i x) := by
  rw [lcells_take, lcells_drop]; simp [bookPut, lcells]
theorem bookPut_len (l : List LLeaf) (i : Nat) (x : LLeaf) (hi : i ≤ l.length) : (bookPut l i x).length = l.length + 1 := by simp [bookPut]; omega

/-- A book and an error are given back; the book is of the call's own. -/
def LeafsPost (w : World) (l : List LLeaf) (k : Int) (e : Ending) (w' : World) : Prop :=
  ∃ V c, e = .returned (.tuple #[.slice V l.length c, errV k]) ∧ Own w' w.heap.size 29 3 V l.length c (lcells l) ∧ Below w.heap.size w w'
theorem leafs_none {w w' : World} {k : Int} (hb : Below w.heap.size w w') : LeafsPost w [] k (.returned (.tuple #[.slice none 0 0, errV k])) w' := ⟨none, 0, rfl, Own.nil _ _ _ _, hb⟩
theorem blk_new_at {w : World} {k : Nat} {t : TypeId} {cs : Array Value} (h : w.heap.size = k) : Blk (w.alloc (.cells cs t)) k t cs := h ▸ Blk.new w t cs
def putErr (l : List LLeaf) : Int := if 300 ≤ l.length then 4 else 0
def putRes (l : List LLeaf) (i : Nat) (x : LLeaf) : List LLeaf := if 300 ≤ l.length then [] else bookPut l i x
set_option maxRecDepth 100000 in
set_option maxHeartbeats 4000000 in
theorem put_any (w : World) (A : Option Addr) (c : Nat) (l : List LLeaf) (i : Nat) (x : LLeaf) (h : Reads w w.heap.size 3 A l.length (lcells l)) (hn : l.length ≤ 300) (hi : i ≤ l.length) :
    Calls Try.prog 92 #[.slice A l.length c, .int .i64 i, .agg #[.string x.place, .int .i64 x.letter, .bool x.struck]] w (LeafsPost w (putRes l i x) (putErr l)) := by
  obtain ⟨p, n, s⟩ := x
  by_cases hf : 300 ≤ l.length
  · have HE : Hid (putErr l = 4 ∧ putRes l i ⟨p, n, s⟩ = []) := ⟨if_pos hf, if_pos hf⟩
    go_enter Try.func92, Try.ntmps92
    go_wp2_with fail
    go_ret2
    rw [HE.out.1, HE.out.2]
    exact leafs_none ((Below.refl _ _).alloc (Nat.le_refl _) _)
  · have HE : Hid (putErr l = 0 ∧ putRes l i ⟨p, n, s⟩ = bookPut l i ⟨p, n, s⟩) := ⟨if_neg hf, if_neg hf⟩
    have HP : Hid ((bookPut l i ⟨p, n, s⟩).length = l.length + 1) := bookPut_len _ _ _ hi
    have HPC := Lib.hid (lcells_put l i ⟨p, n, s⟩)
    have HR : Hid (∀ W, Below w.heap.size w W → Reads W w.heap.size 3 A l.length (lcells l)) := fun W hb => h.below hb
    have HCL := Lib.hid (fun W (hb : Below w.heap.size w W) c => cloneL W w.heap.size A l.length c (lcells l) (HR.out W hb) (oneCells_l l) (Fits.of_small (by omega) (by decide)) hb.size)
    have HIN := Lib.hid (fun W c vb A (hO : Own W w.heap.size 29 3 A l.length c (lcells l)) (hV : Blk W vb 29 #[.string p, .int .i64 n, .bool s]) (hne : vb ∉ ob A) (hB : w.heap.size ≤ W.heap.size) =>
      InsLeaf.any W w.heap.size c l.length vb (lcells l) (LLeaf.cells ⟨p, n, s⟩) i A hO hV rfl hne (oneCells_l l) (by intro u hu; simp [LLeaf.cells] at hu; rcases hu with rfl | rfl | rfl <;> rfl) (by omega) hB hi)
    have c0 : (w.alloc (.cells #[.string p, .int .i64 n, .bool s] 29)).cell? ⟨w.heap.size, 0, none⟩ = some (.string p) := by rw [(Blk.new w _ _).cell]; rfl
    have c1 : (w.alloc (.cells #[.string p, .int .i64 n, .bool s] 29)).cell? ⟨w.heap.size, 1, none⟩ = some (.int .i64 n) := by rw [(Blk.new w _ _).cell]; rfl
    have c2 : (w.alloc (.cells #[.string p, .int .i64 n, .bool s] 29)).cell? ⟨w.heap.size, 2, none⟩ = some (.bool s) := by rw [(Blk.new w _ _).cell]; rfl
    have hd : ¬ (300 ≤ l.length) := hf
    clear h
    go_enter Try.func92, Try.ntmps92
    go_wp2_with fail
    go_region_held3 (fun w' => w'.cell? ⟨w.heap.size, 0, none⟩ = some (.string p) ∧ w'.cell? ⟨w.heap.size, 1, none⟩ = some (.int .i64 n) ∧ w'.cell? ⟨w.heap.size, 2, none⟩ = some (.bool s))
      (first | go_keep | (refine ⟨?_, ?_, ?_⟩ <;> assumption))
      (first
        | (go_at_call 41; refine (HCL.out _ (by first | exact ((Below.refl _ _).alloc (Nat.le_refl _) _).drew | exact (((Below.refl _ _).alloc (Nat.le_refl _) _).alloc (by simp) _).drew) _).mono ?_; rintro e1 w1 ⟨V, cV, rfl, hO, hb⟩; have k0 : w1.cell? ⟨w.heap.size, 0, none⟩ = some (.string p) := ((hb.cell (by simp <;> omega)).trans (by first | exact c0 | (exact (World.cell?_alloc_lt _ _ _ (by simp <;> omega)).trans c0))); have k1 : w1.cell? ⟨w.heap.size, 1, none⟩ = some (.int .i64 n) := ((hb.cell (by simp <;> omega)).trans (by first | exact c1 | (exact (World.cell?_alloc_lt _ _ _ (by simp <;> omega)).trans c1))); have k2 : w1.cell? ⟨w.heap.size, 2, none⟩ = some (.bool s) := ((hb.cell (by simp <;> omega)).trans (by first | exact c2 | (exact (World.cell?_alloc_lt _ _ _ (by simp <;> omega)).trans c2))); have hz : w.heap.size < w1.heap.size := (by have := hb.size; simp at this; omega); have HNV : Hid (∀ g ∈ ob V, w.heap.size < g) := (fun g hg => by have := (hO.lt g hg).1; simp at this; omega); have HO := Lib.hid hO; have HB := Lib.hid hb; have HBW : Hid (Below w.heap.size w w1) := (by first | exact (((Below.refl _ _).alloc (Nat.le_refl _) _).drew).trans (hb.mono (by simp <;> omega)) | exact ((((Below.refl _ _).alloc (Nat.le_refl _) _).alloc (by simp) _).drew).trans (hb.mono (by simp <;> omega))); clear hO hb)
        | (go_at_call 105; refine (HIN.out _ cV _ V (by first | exact HO.out.mono (by simp <;> omega) | exact (HO.out.mono (by simp <;> omega)).alloc _) (by first | exact Blk.new _ _ _ | exact (blk_new_at (by simp)).drew.below HB.out (by simp <;> omega)) (by intro hm; have h1 := (HO.out.lt _ hm).1; have h2 := (HO.out.lt _ hm).2; first | omega | (simp at h1; omega)) (by first | exact Nat.le_refl _ | omega | (simp <;> omega))).mono ?_; rintro e2 w2 ⟨V2, cV2, rfl, hO2, hl2, hg2⟩; have j0 : w2.cell? ⟨w.heap.size, 0, none⟩ = some (.string p) := ((hl2.cell (by simp <;> omega) (fun hm => by have := HNV.out _ hm; simp at this)).trans (by first | exact k0 | (exact (World.cell?_alloc_lt _ _ _ (by simp <;> omega)).trans k0))); have j1 : w2.cell? ⟨w.heap.size, 1, none⟩ = some (.int .i64 n) := ((hl2.cell (by simp <;> omega) (fun hm => by have := HNV.out _ hm; simp at this)).trans (by first | exact k1 | (exact (World.cell?_alloc_lt _ _ _ (by simp <;> omega)).trans k1))); have j2 : w2.cell? ⟨w.heap.size, 2, none⟩ = some (.bool s) := ((hl2.cell (by simp <;> omega) (fun hm => by have := HNV.out _ hm; simp at this)).trans (by first | exact k2 | (exact (World.cell?_alloc_lt _ _ _ (by simp <;> omega)).trans k2)))))
    all_goals
      go_wp2_with fail
      go_ret2
      rw [HE.out.1, HE.out.2]
      refine ⟨V2, cV2, by rw [HP.out]; rfl, by rw [HP.out, ← HPC.out]; exact hO2, ?_⟩
      have hb2 := hl2.below (B := w.heap.size) (by first | omega | (simp <;> omega)) (fun g hg => by have := HNV.out g hg; omega)
      first
        | exact HBW.out.trans hb2
        | exact (HBW.out.alloc (by omega) _).trans hb2
end Go.Proofs.Ytobdollnkndmeaa

/- 2 texts in one: each says ahead of itself what is proved, and its conditions. -/
import Derived.Test.YthfbjfocmnikaaaGreatDoorBookFind
import Derived.Test.YthfbjfocmnikaaaGreatDoorInsLeaf
/- slices.Clone of leafs, book.put, book.ready, walked. Conditions: a book that is not too long. -/
namespace Go.Proofs.YthfbjfocmnikaaaGreatDoor
open Go.RowKit
set_option linter.unusedVariables false
def ClonePost (w : World) (e0 : TypeId) (size n : Nat) (xs : List Value) (e : Ending) (w' : World) : Prop := ∃ A' c', e = .returned (.slice A' n c') ∧ Own w' w.heap.size e0 size A' n c' xs ∧ Below w.heap.size w w'
set_option maxRecDepth 100000 in
theorem cloneL (w : World) (B : Nat) (A : Option Addr) (n c : Nat) (xs : List Value) (hr : Reads w B 3 A n xs) (h1 : OneCells xs) (hf : Fits n 32) (hB : B ≤ w.heap.size) :
    Calls Tryz.prog 74 #[.slice A n c] w (ClonePost w 115 3 n xs) := by
  have HF : Fits (0 + n) 32 := by simpa using hf
  have HR := hr.alloc hB (.cells #[] 115)
  cases A with
  | none =>
    have he := Lib.run_eql_slice_nil (P := Tryz.prog) w 49 115 none n c 0 0 Tryz.underlying49
    go_enter Tryz.func74, Tryz.ntmps74
    go_wp2
    go_ret
    have hn : n = 0 := by
      rcases Nat.eq_zero_or_pos n with h | h
      · exact h
      · obtain ⟨_, h, _⟩ := hr.2 h; cases h
    subst hn
    have hx : xs = [] := List.eq_nil_of_length_eq_zero (by simpa using hr.1)
    subst hx
    exact ⟨none, 0, rfl, Own.nil _ _ _ _, Below.refl _ _⟩
  | some ad =>
    have heS := Lib.run_eql_slice_nil (P := Tryz.prog) w 49 115 (some ad) n c 0 0 Tryz.underlying49
    go_enter Tryz.func74, Tryz.ntmps74
    go_wp2_with (at_builtin; refine wpList_app _ (.tmp 5) (.tmp 6) rfl rfl InsLeaf.elem rfl rfl (Own.made w 115 w.heap.size (Nat.le_refl _) 3) HR h1 HF (by simp) ?_; intro A' c' w1 HO HL HB)
    go_ret
    refine ⟨A', c', rfl, by simpa using HO, ?_⟩
    exact ((Below.refl _ _).alloc (Nat.le_refl _) _).trans (HL.below (by simp) (by simp [ob]))

/-- A book with one leaf more. -/
def bookPut (l : List LLeaf) (i : Nat) (x : LLeaf) : List LLeaf := l.take i ++ x :: l.drop i
theorem lcells_take (l : List LLeaf) (i : Nat) : (lcells l).take (i * 3) = lcells (l.take i) := by
  induction l generalizing i with
  | nil => simp [lcells]
  | cons x l ih =>
    cases i with
    | zero => simp [lcells]
    | succ i =>
      show (x.cells ++ lcells l).take ((i + 1) * 3) = x.cells ++ lcells (l.take i)
      rw [← ih, List.take_append, List.take_of_length_le (by simp [LLeaf.cells]; omega), show (i + 1) * 3 - x.cells.length = i * 3 by simp [LLeaf.cells]; omega]
theorem lcells_drop (l : List LLeaf) (i : Nat) : (lcells l).drop (i * 3) = lcells (l.drop i) := by
  induction l generalizing i with
  | nil => simp [lcells]
  | cons x l ih =>
    cases i with
    | zero => simp [lcells]
    | succ i =>
      show (x.cells ++ lcells l).drop ((i + 1) * 3) = lcells (l.drop i)
      rw [← ih, List.drop_append, List.drop_of_length_le (by simp [LLeaf.cells]; omega), show (i + 1) * 3 - x.cells.length = i * 3 by simp [LLeaf.cells]; omega, List.nil_append]
theorem lcells_put (l : List LLeaf) (i : Nat) (x : LLeaf) : (lcells l).take (i * 3) ++ x.cells ++ (lcells l).drop (i * 3) = lcells (bookPut l i x) := by
  rw [lcells_take, lcells_drop]; simp [bookPut, lcells]
theorem bookPut_len (l : List LLeaf) (i : Nat) (x : LLeaf) (hi : i ≤ l.length) : (bookPut l i x).length = l.length + 1 := by simp [bookPut]; omega

/-- A book and an error are given back; the book is of the call's own. -/
def LeafsPost (w : World) (l : List LLeaf) (k : Int) (e : Ending) (w' : World) : Prop :=
  ∃ V c, e = .returned (.tuple #[.slice V l.length c, errV k]) ∧ Own w' w.heap.size 115 3 V l.length c (lcells l) ∧ Below w.heap.size w w'
theorem leafs_none {w w' : World} {k : Int} (hb : Below w.heap.size w w') : LeafsPost w [] k (.returned (.tuple #[.slice none 0 0, errV k])) w' := ⟨none, 0, rfl, Own.nil _ _ _ _, hb⟩
theorem blk_new_at {w : World} {k : Nat} {t : TypeId} {cs : Array Value} (h : w.heap.size = k) : Blk (w.alloc (.cells cs t)) k t cs := h ▸ Blk.new w t cs
def putErr (l : List LLeaf) : Int := if 300 ≤ l.length then 4 else 0
def putRes (l : List LLeaf) (i : Nat) (x : LLeaf) : List LLeaf := if 300 ≤ l.length then [] else bookPut l i x
set_option maxRecDepth 100000 in
set_option maxHeartbeats 4000000 in
theorem put_any (w : World) (A : Option Addr) (c : Nat) (l : List LLeaf) (i : Nat) (x : LLeaf) (h : Reads w w.heap.size 3 A l.length (lcells l)) (hn : l.length ≤ 300) (hi : i ≤ l.length) :
    Calls Tryz.prog 191 #[.slice A l.length c, .int .i64 i, .agg #[.string x.place, .int .i64 x.letter, .bool x.struck]] w (LeafsPost w (putRes l i x) (putErr l)) := by
  obtain ⟨p, n, s⟩ := x
  by_cases hf : 300 ≤ l.length
  · have HE : Hid (putErr l = 4 ∧ putRes l i ⟨p, n, s⟩ = []) := ⟨if_pos hf, if_pos hf⟩
    go_enter Tryz.func191, Tryz.ntmps191
    go_wp2_with fail
    go_ret2
    rw [HE.out.1, HE.out.2]
    exact leafs_none ((Below.refl _ _).alloc (Nat.le_refl _) _)
  · have HE : Hid (putErr l = 0 ∧ putRes l i ⟨p, n, s⟩ = bookPut l i ⟨p, n, s⟩) := ⟨if_neg hf, if_neg hf⟩
    have HP : Hid ((bookPut l i ⟨p, n, s⟩).length = l.length + 1) := bookPut_len _ _ _ hi
    have HPC := Lib.hid (lcells_put l i ⟨p, n, s⟩)
    have HR : Hid (∀ W, Below w.heap.size w W → Reads W w.heap.size 3 A l.length (lcells l)) := fun W hb => h.below hb
    have HCL := Lib.hid (fun W (hb : Below w.heap.size w W) c => cloneL W w.heap.size A l.length c (lcells l) (HR.out W hb) (oneCells_l l) (Fits.of_small (by omega) (by decide)) hb.size)
    have HIN := Lib.hid (fun W c vb A (hO : Own W w.heap.size 115 3 A l.length c (lcells l)) (hV : Blk W vb 115 #[.string p, .int .i64 n, .bool s]) (hne : vb ∉ ob A) (hB : w.heap.size ≤ W.heap.size) =>
      InsLeaf.any W w.heap.size c l.length vb (lcells l) (LLeaf.cells ⟨p, n, s⟩) i A hO hV rfl hne (oneCells_l l) (by intro u hu; simp [LLeaf.cells] at hu; rcases hu with rfl | rfl | rfl <;> rfl) (by omega) hB hi)
    have c0 : (w.alloc (.cells #[.string p, .int .i64 n, .bool s] 115)).cell? ⟨w.heap.size, 0, none⟩ = some (.string p) := by rw [(Blk.new w _ _).cell]; rfl
    have c1 : (w.alloc (.cells #[.string p, .int .i64 n, .bool s] 115)).cell? ⟨w.heap.size, 1, none⟩ = some (.int .i64 n) := by rw [(Blk.new w _ _).cell]; rfl
    have c2 : (w.alloc (.cells #[.string p, .int .i64 n, .bool s] 115)).cell? ⟨w.heap.size, 2, none⟩ = some (.bool s) := by rw [(Blk.new w _ _).cell]; rfl
    have hd : ¬ (300 ≤ l.length) := hf
    clear h
    go_enter Tryz.func191, Tryz.ntmps191
    go_wp2_with fail
    go_region_held3 (fun w' => w'.cell? ⟨w.heap.size, 0, none⟩ = some (.string p) ∧ w'.cell? ⟨w.heap.size, 1, none⟩ = some (.int .i64 n) ∧ w'.cell? ⟨w.heap.size, 2, none⟩ = some (.bool s))
      (first | go_keep | (refine ⟨?_, ?_, ?_⟩ <;> assumption))
      (first
        | (go_at_call 74; refine (HCL.out _ (by first | exact ((Below.refl _ _).alloc (Nat.le_refl _) _).drew | exact (((Below.refl _ _).alloc (Nat.le_refl _) _).alloc (by simp) _).drew) _).mono ?_; rintro e1 w1 ⟨V, cV, rfl, hO, hb⟩; have k0 : w1.cell? ⟨w.heap.size, 0, none⟩ = some (.string p) := ((hb.cell (by simp <;> omega)).trans (by first | exact c0 | (exact (World.cell?_alloc_lt _ _ _ (by simp <;> omega)).trans c0))); have k1 : w1.cell? ⟨w.heap.size, 1, none⟩ = some (.int .i64 n) := ((hb.cell (by simp <;> omega)).trans (by first | exact c1 | (exact (World.cell?_alloc_lt _ _ _ (by simp <;> omega)).trans c1))); have k2 : w1.cell? ⟨w.heap.size, 2, none⟩ = some (.bool s) := ((hb.cell (by simp <;> omega)).trans (by first | exact c2 | (exact (World.cell?_alloc_lt _ _ _ (by simp <;> omega)).trans c2))); have hz : w.heap.size < w1.heap.size := (by have := hb.size; simp at this; omega); have HNV : Hid (∀ g ∈ ob V, w.heap.size < g) := (fun g hg => by have := (hO.lt g hg).1; simp at this; omega); have HO := Lib.hid hO; have HB := Lib.hid hb; have HBW : Hid (Below w.heap.size w w1) := (by first | exact (((Below.refl _ _).alloc (Nat.le_refl _) _).drew).trans (hb.mono (by simp <;> omega)) | exact ((((Below.refl _ _).alloc (Nat.le_refl _) _).alloc (by simp) _).drew).trans (hb.mono (by simp <;> omega))); clear hO hb)
        | (go_at_call 229; refine (HIN.out _ cV _ V (by first | exact HO.out.mono (by simp <;> omega) | exact (HO.out.mono (by simp <;> omega)).alloc _) (by first | exact Blk.new _ _ _ | exact (blk_new_at (by simp)).drew.below HB.out (by simp <;> omega)) (by intro hm; have h1 := (HO.out.lt _ hm).1; have h2 := (HO.out.lt _ hm).2; first | omega | (simp at h1; omega)) (by first | exact Nat.le_refl _ | omega | (simp <;> omega))).mono ?_; rintro e2 w2 ⟨V2, cV2, rfl, hO2, hl2, hg2⟩; have j0 : w2.cell? ⟨w.heap.size, 0, none⟩ = some (.string p) := ((hl2.cell (by simp <;> omega) (fun hm => by have := HNV.out _ hm; simp at this)).trans (by first | exact k0 | (exact (World.cell?_alloc_lt _ _ _ (by simp <;> omega)).trans k0))); have j1 : w2.cell? ⟨w.heap.size, 1, none⟩ = some (.int .i64 n) := ((hl2.cell (by simp <;> omega) (fun hm => by have := HNV.out _ hm; simp at this)).trans (by first | exact k1 | (exact (World.cell?_alloc_lt _ _ _ (by simp <;> omega)).trans k1))); have j2 : w2.cell? ⟨w.heap.size, 2, none⟩ = some (.bool s) := ((hl2.cell (by simp <;> omega) (fun hm => by have := HNV.out _ hm; simp at this)).trans (by first | exact k2 | (exact (World.cell?_alloc_lt _ _ _ (by simp <;> omega)).trans k2)))))
    all_goals
      go_wp2_with fail
      go_ret2
      rw [HE.out.1, HE.out.2]
      refine ⟨V2, cV2, by rw [HP.out]; rfl, by rw [HP.out, ← HPC.out]; exact hO2, ?_⟩
      have hb2 := hl2.below (B := w.heap.size) (by first | omega | (simp <;> omega)) (fun g hg => by have := HNV.out g hg; omega)
      first
        | exact HBW.out.trans hb2
        | exact (HBW.out.alloc (by omega) _).trans hb2
end Go.Proofs.YthfbjfocmnikaaaGreatDoor
/- book.ready, book.Write, book.Strike, book.Offset, walked. Conditions: places that an int may count. -/
namespace Go.Proofs.YthfbjfocmnikaaaGreatDoor
open Go.RowKit
set_option linter.unusedVariables false
/-- What is wrong with a book, and a place. -/
def bookReady (l : List LLeaf) (p : ByteArray) : Int := if bookErr l ≠ 0 then bookErr l else placeErr p
set_option maxRecDepth 100000 in
theorem bready_any (w : World) (A : Option Addr) (c : Nat) (l : List LLeaf) (p : ByteArray) (h : Reads w w.heap.size 3 A l.length (lcells l)) (hs : Sized l) (hn : l.length ≤ 9223372036854775807) (hp : p.size ≤ 9223372036854775807) :
    Calls Tryz.prog 174 #[.slice A l.length c, .string p] w (CheckPost w (errV (bookReady l p))) := by
  have HC := Lib.hid (bookCheck_any w A c l h hs hn)
  have HP := Lib.hid (fun w => check_any w p hp)
  clear h hs hn
  by_cases he : bookErr l = 0
  · have HE := Lib.hid he
    have HF : Hid (bookReady l p = placeErr p) := if_neg (fun h => h he)
    clear he
    go_enter Tryz.func174, Tryz.ntmps174
    go_wp2_with fail
    refine HC.out.mono ?_
    rintro e w1 ⟨rfl, hb1⟩
    rw [HE.out, show errV 0 = .nilIface from rfl]
    have HB1 := Lib.hid hb1
    clear hb1
    go_wp2_with fail
    refine (HP.out _).mono ?_
    rintro e w2 ⟨rfl, hb2⟩
    have HB2 := Lib.hid (HB1.out.trans (hb2.mono HB1.out.size))
    clear hb2
    go_wp2_with fail
    go_ret
    exact ⟨by rw [HF.out]; rfl, HB2.out⟩
  · have HV := Lib.hid (errV_ne he)
    have HF : Hid (bookReady l p = bookErr l) := if_pos he
    clear he
    go_enter Tryz.func174, Tryz.ntmps174
    go_wp2_with fail
    refine HC.out.mono ?_
    rintro e w1 ⟨rfl, hb1⟩
    rw [HV.out]
    go_wp2_with fail
    go_ret
    exact ⟨by rw [HF.out, HV.out]; rfl, hb1⟩
theorem bready_ok {l : List LLeaf} {p : ByteArray} (h : bookReady l p = 0) : BookOk l ∧ placeErr p = 0 := by
  unfold bookReady at h
  by_cases he : bookErr l ≠ 0
  · rw [if_pos he] at h; exact absurd h he
  · rw [if_neg he] at h; exact ⟨book_ok (by omega), h⟩

def LLeaf.write (x : LLeaf) (n : Int) : LLeaf := ⟨x.place, n, x.struck⟩
def LLeaf.strike (x : LLeaf) : LLeaf := ⟨x.place, x.letter, true⟩
def leafAt (l : List LLeaf) (p : ByteArray) : LLeaf := l.getD (ahead l p) default
theorem hasAt_lt {l : List LLeaf} {p : ByteArray} (h : hasAt l p = true) : ahead l p < l.length := by
  unfold hasAt at h
  rcases Nat.lt_or_ge (ahead l p) l.length with h1 | h1
  · exact h1
  · rw [List.getElem?_eq_none h1] at h; cases h
theorem lcells_letter (l : List LLeaf) (i : Nat) (hi : i < l.length) (n : Int) : (lcells l).set (i * 3 + 1) (.int .i64 n) = lcells (l.set i (l[i].write n)) := by
  induction l generalizing i with
  | nil => simp at hi
  | cons x l ih =>
    cases i with
    | zero => rfl
    | succ i =>
      show (x.cells ++ lcells l).set ((i + 1) * 3 + 1) _ = x.cells ++ lcells (l.set i ((l[i]'(by simpa using hi)).write n))
      rw [← ih i (by simpa using hi), List.set_append_right _ _ (by simp [LLeaf.cells]; omega), show (i + 1) * 3 + 1 - x.cells.length = i * 3 + 1 by simp [LLeaf.cells]; omega]
theorem lcells_struck (l : List LLeaf) (i : Nat) (hi : i < l.length) : (lcells l).set (i * 3 + 2) (.bool true) = lcells (l.set i l[i].strike) := by
  induction l generalizing i with
  | nil => simp at hi
  | cons x l ih =>
    cases i with
    | zero => rfl
    | succ i =>
      show (x.cells ++ lcells l).set ((i + 1) * 3 + 2) _ = x.cells ++ lcells (l.set i (l[i]'(by simpa using hi)).strike)
      rw [← ih i (by simpa using hi), List.set_append_right _ _ (by simp [LLeaf.cells]; omega), show (i + 1) * 3 + 2 - x.cells.length = i * 3 + 2 by simp [LLeaf.cells]; omega]
/-- A book in which a letter is written; what is wrong. -/
def writeRes (l : List LLeaf) (p : ByteArray) (n : Int) : List LLeaf := if hasAt l p = true then l.set (ahead l p) ((leafAt l p).write n) else bookPut l (ahead l p) ⟨p, n, false⟩
def writeErr (l : List LLeaf) (p : ByteArray) (n : Int) : Int :=
  if bookReady l p ≠ 0 then bookReady l p else if letterB n = false then 1 else if hasAt l p = false then putErr l else if (leafAt l p).letter ≠ 0 ∧ (leafAt l p).letter ≠ n then 7 else 0
def strikeRes (l : List LLeaf) (p : ByteArray) : List LLeaf := if hasAt l p = true then l.set (ahead l p) (leafAt l p).strike else bookPut l (ahead l p) ⟨p, 0, true⟩
def strikeErr (l : List LLeaf) (p : ByteArray) : Int := if bookReady l p ≠ 0 then bookReady l p else if hasAt l p = false then putErr l else 0
def giveL (k : Int) (l : List LLeaf) : List LLeaf := if k = 0 then l else []
theorem giveL_bad {k : Int} (h : k ≠ 0) (l : List LLeaf) : giveL k l = [] := if_neg h
theorem putRes_give (l : List LLeaf) (i : Nat) (x : LLeaf) : putRes l i x = giveL (putErr l) (bookPut l i x) := by
  unfold putRes giveL putErr
  by_cases h : 300 ≤ l.length <;> simp [h]
set_option maxRecDepth 100000 in
set_option maxHeartbeats 2000000 in
theorem write_any (w : World) (A : Option Addr) (c : Nat) (l : List LLeaf) (p : ByteArray) (n : Int) (h : Reads w w.heap.size 3 A l.length (lcells l)) (hs : Sized l) (hn : l.length ≤ 9223372036854775807) (hp : p.size ≤ 9223372036854775807) :
    Calls Tryz.prog 142 #[.slice A l.length c, .string p, .int .i64 n] w (LeafsPost w (giveL (writeErr l p n) (writeRes l p n)) (writeErr l p n)) := by
  have HC := Lib.hid (bready_any w A c l p h hs (by omega) hp)
  have HR := Lib.hid h
  have HL := Lib.hid (fun w => letter_any w n)
  clear h hs
  by_cases he : bookReady l p = 0
  · obtain ⟨ok, _⟩ := bready_ok he
    have HE := Lib.hid he
    have hfew := ok.few
    have HF := Lib.hid (fun w1 (hb : Below w.heap.size w w1) => find_any w1 A c l p ((HR.out.below hb).more hb.size) (by omega) ok.rising)
    have hal := ahead_le l p
    by_cases hl : letterB n = true
    · have HLt := Lib.hid hl
      cases hh : hasAt l p with
      | false =>
        have HPU := Lib.hid (fun w1 (hb : Below w.heap.size w w1) => put_any w1 A c l (ahead l p) ⟨p, n, false⟩ ((HR.out.below hb).more hb.size) hfew hal)
        have HW : Hid (writeErr l p n = putErr l ∧ giveL (writeErr l p n) (writeRes l p n) = putRes l (ahead l p) ⟨p, n, false⟩) := by
          have h1 : writeErr l p n = putErr l := by unfold writeErr; rw [if_neg (fun h => h he), if_neg (by rw [hl]; decide), if_pos hh]
          exact ⟨h1, by rw [h1, putRes_give, writeRes, if_neg (by rw [hh]; decide)]⟩
        have HHs := Lib.hid hh
        clear he ok hl hh
        go_enter Tryz.func142, Tryz.ntmps142
        go_wp2_with fail
        refine HC.out.mono ?_
        rintro e w1 ⟨rfl, hb1⟩
        rw [HE.out, show errV 0 = .nilIface from rfl]
        have HB1 := Lib.hid hb1
        clear hb1
        go_wp2_with fail
        refine (HL.out _).mono ?_
        rintro e w1' ⟨rfl, rfl⟩
        rw [HLt.out]
        go_wp2_with fail
        refine (HF.out _ HB1.out).mono ?_
        rintro e w2 ⟨rfl, hb2⟩
        rw [HHs.out]
        have HB2 := Lib.hid (HB1.out.trans (hb2.mono HB1.out.size))
        clear hb2
        go_wp2_with fail
        refine (HPU.out _ HB2.out).mono ?_
        rintro e w3 ⟨V, cV, rfl, hO3, hb3⟩
        have HO3 := Lib.hid hO3
        have HB3 := Lib.hid (HB2.out.trans (hb3.mono HB2.out.size))
        clear hb3 hO3
        go_wp2_with fail
        go_ret2
        rw [HW.out.2, HW.out.1]
        exact ⟨V, cV, rfl, HO3.out.mono HB2.out.size, HB3.out⟩
      | true =>
        have hlt := hasAt_lt hh
        have HHs := Lib.hid hh
        have hla : leafAt l p = l[ahead l p] := by unfold leafAt; simp [List.getD, hlt]
        have hlc := lcells_letter l (ahead l p) hlt n
        rw [← hla] at hlc
        have HLC := Lib.hid hlc
        have HWR : Hid (writeRes l p n = l.set (ahead l p) ((leafAt l p).write n)) := if_pos hh
        have hwe : writeErr l p n = if (leafAt l p).letter ≠ 0 ∧ (leafAt l p).letter ≠ n then 7 else 0 := by unfold writeErr; rw [if_neg (fun h => h he), if_neg (by rw [hl]; decide), if_neg (by rw [hh]; decide)]
        have HLF : Hid (∀ W, Below w.heap.size w W → ∃ ad, A = some ad ∧ W.cell? ⟨(ad.add (ahead l p * 3)).block, (ad.add (ahead l p * 3)).off + 1, none⟩ = some (.int .i64 (leafAt l p).letter)) := fun W hb => by
          obtain ⟨ad, e, _, _, c1, _⟩ := (HR.out.below hb).leaf hlt
          exact ⟨ad, e, by rw [hla]; exact c1⟩
        have HCL := Lib.hid (fun w1 (hb : Below w.heap.size w w1) => cloneL w1 w1.heap.size A l.length c (lcells l) ((HR.out.below hb).more hb.size) (oneCells_l l) (Fits.of_small (by omega) (by decide)) (Nat.le_refl _))
        have HLA : Hid ((lcells l)[ahead l p * 3 + 1]? = some (.int .i64 (leafAt l p).letter)) := by show _ = _; rw [hla, lcells_at l _ 1 hlt (by omega)]; rfl
        have HLN : Hid ((l.set (ahead l p) ((leafAt l p).write n)).length = l.length) := List.length_set
        clear he ok hl hh hlc hla
        generalize leafAt l p = x at *
        have i0 : (0 : Int) ≤ (ahead l p : Int) := by omega
        have i1 : (ahead l p : Int) < (l.length : Int) := by omega
        by_cases hbad : x.letter ≠ 0 ∧ x.letter ≠ n
        · have HW : Hid (writeErr l p n = 7) := by show _ = _; rw [hwe, if_pos hbad]
          have g1 : (x.letter != 0) = true := by simpa using hbad.1
          have g2 : (x.letter != n) = true := by simpa using hbad.2
          clear hwe hbad
          go_enter Tryz.func142, Tryz.ntmps142
          go_wp2_with fail
          refine HC.out.mono ?_
          rintro e w1 ⟨rfl, hb1⟩
          rw [HE.out, show errV 0 = .nilIface from rfl]
          have HB1 := Lib.hid hb1
          clear hb1
          go_wp2_with fail
          refine (HL.out _).mono ?_
          rintro e w1' ⟨rfl, rfl⟩
          rw [HLt.out]
          go_wp2_with fail
          refine (HF.out _ HB1.out).mono ?_
          rintro e w2 ⟨rfl, hb2⟩
          rw [HHs.out]
          have HB2 := Lib.hid (HB1.out.trans (hb2.mono HB1.out.size))
          clear hb2 HF
          generalize ahead l p = i at *
          obtain ⟨ad, rfl, c1⟩ := HLF.out _ HB2.out
          go_wp2_with fail
          go_ret2
          rw [HW.out, giveL_bad (by decide)]
          exact leafs_none HB2.out
        · have HW : Hid (writeErr l p n = 0) := by show _ = _; rw [hwe, if_neg hbad]
          have HG := Lib.hid hbad
          clear hwe hbad
          go_enter Tryz.func142, Tryz.ntmps142
          go_wp2_with fail
          refine HC.out.mono ?_
          rintro e w1 ⟨rfl, hb1⟩
          rw [HE.out, show errV 0 = .nilIface from rfl]
          have HB1 := Lib.hid hb1
          clear hb1
          go_wp2_with fail
          refine (HL.out _).mono ?_
          rintro e w1' ⟨rfl, rfl⟩
          rw [HLt.out]
          go_wp2_with fail
          refine (HF.out _ HB1.out).mono ?_
          rintro e w2 ⟨rfl, hb2⟩
          rw [HHs.out]
          have HB2 := Lib.hid (HB1.out.trans (hb2.mono HB1.out.size))
          clear hb2 HF
          generalize ahead l p = i at *
          obtain ⟨ad, rfl, c1⟩ := HLF.out _ HB2.out
          have HCL2 := Lib.hid (HCL.out _ HB2.out)
          have finish : ∀ (W : World) (V : Option Addr) (cV : Nat) (g : Nat), Own W w2.heap.size 115 3 (some ⟨g, 0, none⟩) l.length cV (lcells l) → Below w2.heap.size w2 W →
              LeafsPost w (giveL (writeErr l p n) (writeRes l p n)) (writeErr l p n) (.returned (.tuple #[.slice (some ⟨g, 0, none⟩) l.length cV, .nilIface])) (W.setCell ⟨g, i * 3 + 1, none⟩ (.int .i64 n)) := fun W V cV g hO hb => by
            rw [HW.out, HWR.out, giveL, if_pos rfl]
            refine ⟨some ⟨g, 0, none⟩, cV, by rw [HLN.out]; rfl, ?_, ?_⟩
            · rw [HLN.out, ← HLC.out]
              exact (hO.storeK (by omega) _).mono HB2.out.size
            · have := (hO.lt g (by simp [ob])).1
              exact (HB2.out.trans (hb.mono HB2.out.size)).setCell (Nat.le_trans HB2.out.size this) _
          have HFin := Lib.hid finish
          clear finish
          by_cases h0 : x.letter = 0
          · have g1 : (x.letter != 0) = false := by simp [h0]
            clear h0
            go_wp2_with fail
            refine HCL2.out.mono ?_
            rintro e w3 ⟨V, cV, rfl, hO3, hb3⟩
            obtain ⟨g, rfl, _, _⟩ := hO3.head (by omega)
            have k0 : w3.cell? ⟨g, i * 3 + 1, none⟩ = some (.int .i64 x.letter) := by rw [hO3.cellAt (by omega)]; exact HLA.out
            have k1 := hO3.frozenAt (i * 3 + 1)
            have HF3 := Lib.hid (HFin.out w3 none cV g hO3 hb3)
            clear hO3 hb3
            go_wp2_with fail
            go_ret2
            exact HF3.out
          · have g1 : (x.letter != 0) = true := by simpa using h0
            have g2 : (x.letter != n) = false := by
              cases hc : (x.letter != n)
              · rfl
              · exact absurd ⟨h0, by simpa using hc⟩ HG.out
            clear h0
            go_wp2_with fail
            refine HCL2.out.mono ?_
            rintro e w3 ⟨V, cV, rfl, hO3, hb3⟩
            obtain ⟨g, rfl, _, _⟩ := hO3.head (by omega)
            have k0 : w3.cell? ⟨g, i * 3 + 1, none⟩ = some (.int .i64 x.letter) := by rw [hO3.cellAt (by omega)]; exact HLA.out
            have k1 := hO3.frozenAt (i * 3 + 1)
            have HF3 := Lib.hid (HFin.out w3 none cV g hO3 hb3)
            clear hO3 hb3
            go_wp2_with fail
            go_ret2
            exact HF3.out
    · have hl2 : letterB n = false := by simpa using hl
      have HLt := Lib.hid hl2
      have HW : Hid (writeErr l p n = 1) := by show _ = _; unfold writeErr; rw [if_neg (fun h => h he), if_pos hl2]
      clear he ok hl hl2
      go_enter Tryz.func142, Tryz.ntmps142
      go_wp2_with fail
      refine HC.out.mono ?_
      rintro e w1 ⟨rfl, hb1⟩
      rw [HE.out, show errV 0 = .nilIface from rfl]
      have HB1 := Lib.hid hb1
      clear hb1
      go_wp2_with fail
      refine (HL.out _).mono ?_
      rintro e w1' ⟨rfl, rfl⟩
      rw [HLt.out]
      go_wp2_with fail
      go_ret2
      rw [HW.out, giveL_bad (by decide)]
      exact leafs_none HB1.out
  · have HV := Lib.hid (errV_ne he)
    have HW : Hid (writeErr l p n = bookReady l p) := by show _ = _; unfold writeErr; rw [if_pos he]
    have HN := Lib.hid he
    clear he
    go_enter Tryz.func142, Tryz.ntmps142
    go_wp2_with fail
    refine HC.out.mono ?_
    rintro e w1 ⟨rfl, hb1⟩
    rw [HV.out]
    go_wp2_with fail
    go_ret2
    rw [HW.out, giveL_bad HN.out, ← HV.out]
    exact leafs_none hb1
set_option maxRecDepth 100000 in
set_option maxHeartbeats 2000000 in
theorem strike_any (w : World) (A : Option Addr) (c : Nat) (l : List LLeaf) (p : ByteArray) (h : Reads w w.heap.size 3 A l.length (lcells l)) (hs : Sized l) (hn : l.length ≤ 9223372036854775807) (hp : p.size ≤ 9223372036854775807) :
    Calls Tryz.prog 143 #[.slice A l.length c, .string p] w (LeafsPost w (giveL (strikeErr l p) (strikeRes l p)) (strikeErr l p)) := by
  have HC := Lib.hid (bready_any w A c l p h hs (by omega) hp)
  have HR := Lib.hid h
  clear h hs
  by_cases he : bookReady l p = 0
  · obtain ⟨ok, _⟩ := bready_ok he
    have HE := Lib.hid he
    have hfew := ok.few
    have HF := Lib.hid (fun w1 (hb : Below w.heap.size w w1) => find_any w1 A c l p ((HR.out.below hb).more hb.size) (by omega) ok.rising)
    have hal := ahead_le l p
    cases hh : hasAt l p with
    | false =>
      have HPU := Lib.hid (fun w1 (hb : Below w.heap.size w w1) => put_any w1 A c l (ahead l p) ⟨p, 0, true⟩ ((HR.out.below hb).more hb.size) hfew hal)
      have HW : Hid (strikeErr l p = putErr l ∧ giveL (strikeErr l p) (strikeRes l p) = putRes l (ahead l p) ⟨p, 0, true⟩) := by
        have h1 : strikeErr l p = putErr l := by unfold strikeErr; rw [if_neg (fun h => h he), if_pos hh]
        exact ⟨h1, by rw [h1, putRes_give, strikeRes, if_neg (by rw [hh]; decide)]⟩
      have HHs := Lib.hid hh
      clear he ok hh
      go_enter Tryz.func143, Tryz.ntmps143
      go_wp2_with fail
      refine HC.out.mono ?_
      rintro e w1 ⟨rfl, hb1⟩
      rw [HE.out, show errV 0 = .nilIface from rfl]
      have HB1 := Lib.hid hb1
      clear hb1
      go_wp2_with fail
      refine (HF.out _ HB1.out).mono ?_
      rintro e w2 ⟨rfl, hb2⟩
      rw [HHs.out]
      have HB2 := Lib.hid (HB1.out.trans (hb2.mono HB1.out.size))
      clear hb2
      go_wp2_with fail
      refine (HPU.out _ HB2.out).mono ?_
      rintro e w3 ⟨V, cV, rfl, hO3, hb3⟩
      have HO3 := Lib.hid hO3
      have HB3 := Lib.hid (HB2.out.trans (hb3.mono HB2.out.size))
      clear hb3 hO3
      go_wp2_with fail
      go_ret2
      rw [HW.out.2, HW.out.1]
      exact ⟨V, cV, rfl, HO3.out.mono HB2.out.size, HB3.out⟩
    | true =>
      have hlt := hasAt_lt hh
      have HHs := Lib.hid hh
      have hla : leafAt l p = l[ahead l p] := by unfold leafAt; simp [List.getD, hlt]
      have hlc := lcells_struck l (ahead l p) hlt
      rw [← hla] at hlc
      have HLC := Lib.hid hlc
      have HWR : Hid (strikeRes l p = l.set (ahead l p) (leafAt l p).strike) := if_pos hh
      have HW : Hid (strikeErr l p = 0) := by show _ = _; unfold strikeErr; rw [if_neg (fun h => h he), if_neg (by rw [hh]; decide)]
      have HLA : Hid ((lcells l)[ahead l p * 3 + 2]? = some (.bool (leafAt l p).struck)) := by show _ = _; rw [hla, lcells_at l _ 2 hlt (by omega)]; rfl
      have HCL := Lib.hid (fun w1 (hb : Below w.heap.size w w1) => cloneL w1 w1.heap.size A l.length c (lcells l) ((HR.out.below hb).more hb.size) (oneCells_l l) (Fits.of_small (by omega) (by decide)) (Nat.le_refl _))
      have HLN : Hid ((l.set (ahead l p) (leafAt l p).strike).length = l.length) := List.length_set
      clear he ok hh hlc hla
      generalize leafAt l p = x at *
      have i0 : (0 : Int) ≤ (ahead l p : Int) := by omega
      have i1 : (ahead l p : Int) < (l.length : Int) := by omega
      go_enter Tryz.func143, Tryz.ntmps143
      go_wp2_with fail
      refine HC.out.mono ?_
      rintro e w1 ⟨rfl, hb1⟩
      rw [HE.out, show errV 0 = .nilIface from rfl]
      have HB1 := Lib.hid hb1
      clear hb1
      go_wp2_with fail
      refine (HF.out _ HB1.out).mono ?_
      rintro e w2 ⟨rfl, hb2⟩
      rw [HHs.out]
      have HB2 := Lib.hid (HB1.out.trans (hb2.mono HB1.out.size))
      clear hb2 HF
      generalize ahead l p = i at *
      have HCL2 := Lib.hid (HCL.out _ HB2.out)
      go_wp2_with fail
      refine HCL2.out.mono ?_
      rintro e w3 ⟨V, cV, rfl, hO3, hb3⟩
      obtain ⟨g, rfl, _, _⟩ := hO3.head (by omega)
      have k0 : w3.cell? ⟨g, i * 3 + 2, none⟩ = some (.bool x.struck) := by rw [hO3.cellAt (by omega)]; exact HLA.out
      have k1 := hO3.frozenAt (i * 3 + 2)
      have HO3 := Lib.hid hO3
      have HB3 := Lib.hid hb3
      clear hO3 hb3
      go_wp2_with fail
      go_ret2
      rw [HW.out, HWR.out, giveL, if_pos rfl]
      refine ⟨some ⟨g, 0, none⟩, cV, by rw [HLN.out]; rfl, ?_, ?_⟩
      · rw [HLN.out, ← HLC.out]
        exact (HO3.out.storeK (by omega) _).mono HB2.out.size
      · have := (HO3.out.lt g (by simp [ob])).1
        exact (HB2.out.trans (HB3.out.mono HB2.out.size)).setCell (Nat.le_trans HB2.out.size this) _
  · have HV := Lib.hid (errV_ne he)
    have HW : Hid (strikeErr l p = bookReady l p) := by show _ = _; unfold strikeErr; rw [if_pos he]
    have HN := Lib.hid he
    clear he
    go_enter Tryz.func143, Tryz.ntmps143
    go_wp2_with fail
    refine HC.out.mono ?_
    rintro e w1 ⟨rfl, hb1⟩
    rw [HV.out]
    go_wp2_with fail
    go_ret2
    rw [HW.out, giveL_bad HN.out, ← HV.out]
    exact leafs_none hb1
end Go.Proofs.YthfbjfocmnikaaaGreatDoor

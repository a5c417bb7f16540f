/- book.Text, Nth, At, walked; what a book that is right has. Conditions: stated with each. -/
import Derived.Test.YtkaccnegdmpofaaGreatDoorBookText
namespace Go.Proofs.YtkaccnegdmpofaaGreatDoor
open Go.RowKit
set_option linter.unusedVariables false

/-- A leaf that is right. -/
structure LLeaf.Ok (x : LLeaf) : Prop where
  place : placeErr x.place = 0
  letter : x.letter ≠ 0 → 32 ≤ x.letter ∧ x.letter ≤ 126
  struck : x.letter = 0 → x.struck = true
theorem leaf_ok {prev : Option LLeaf} {x : LLeaf} (h : leafErr prev x = 0) : x.Ok ∧ ∀ p, prev = some p → Op.bytesLess p.place.toList x.place.toList = true := by
  unfold leafErr at h
  by_cases h1 : placeErr x.place ≠ 0
  · rw [if_pos h1] at h; exact absurd h h1
  rw [if_neg h1] at h
  by_cases h2 : x.letter ≠ 0 ∧ letterB x.letter = false
  · rw [if_pos h2] at h; omega
  rw [if_neg h2] at h
  by_cases h3 : x.letter = 0 ∧ x.struck = false
  · rw [if_pos h3] at h; omega
  rw [if_neg h3] at h
  refine ⟨⟨by omega, fun hn => ?_, fun hn => ?_⟩, ?_⟩
  · have hl : letterB x.letter = true := by
      cases hl : letterB x.letter
      · exact absurd ⟨hn, hl⟩ h2
      · rfl
    simp [letterB] at hl
    exact hl
  · cases hs : x.struck
    · exact absurd ⟨hn, hs⟩ h3
    · rfl
  · rintro p rfl
    cases hl : Op.bytesLess p.place.toList x.place.toList
    · rw [if_pos hl] at h; omega
    · rfl
/-- Places rise. -/
def Rising : List LLeaf → Prop
  | [] => True
  | x :: l => (∀ y, l.head? = some y → Op.bytesLess x.place.toList y.place.toList = true) ∧ Rising l
theorem fault_ok {prev : Option LLeaf} {l : List LLeaf} (h : bookFault prev l = 0) : (∀ x ∈ l, x.Ok) ∧ Rising l ∧ ∀ p y, prev = some p → l.head? = some y → Op.bytesLess p.place.toList y.place.toList = true := by
  induction l generalizing prev with
  | nil => exact ⟨by simp, trivial, by simp⟩
  | cons x l ih =>
    rw [bookFault] at h
    by_cases h1 : leafErr prev x ≠ 0
    · rw [if_pos h1] at h; exact absurd h h1
    · rw [if_neg h1] at h
      obtain ⟨i1, i2, i3⟩ := ih h
      obtain ⟨k1, k2⟩ := leaf_ok (show leafErr prev x = 0 by omega)
      refine ⟨fun y hy => ?_, ⟨fun y hy => i3 x y rfl hy, i2⟩, fun p y hp hy => ?_⟩
      · rcases List.mem_cons.1 hy with rfl | hy
        · exact k1
        · exact i1 y hy
      · simp at hy; subst hy; exact k2 p hp
structure BookOk (l : List LLeaf) : Prop where
  few : l.length ≤ 300
  leafs : ∀ x ∈ l, x.Ok
  rising : Rising l
theorem book_ok {l : List LLeaf} (h : bookErr l = 0) : BookOk l := by
  unfold bookErr at h
  by_cases h1 : 300 < l.length
  · rw [if_pos h1] at h; omega
  · rw [if_neg h1] at h
    obtain ⟨i1, i2, _⟩ := fault_ok h
    exact ⟨by omega, i1, i2⟩
theorem Fit.sub {l m : List LLeaf} (h : Fit l) (hm : ∀ x ∈ m, x ∈ l) : Fit m := fun x hx => h x (hm x hx)

/-- The place in the list of the o-th leaf that is seen, from k on; below 0: none. -/
def nthFrom : Nat → List LLeaf → Int → Int
  | _, [], _ => -1
  | k, x :: l, o => if seenB x = true then (if o = 0 then (k : Int) else nthFrom (k + 1) l (o - 1)) else nthFrom (k + 1) l o
def NthLoop (w : World) (l : List LLeaf) (off : Int) (x i : Value) (wr : World) : Prop :=
  ∃ (k : Nat) (o : Int), k ≤ l.length ∧ i = .int .i64 k ∧ x = .int .i64 o ∧ 0 ≤ o ∧ o ≤ off ∧ Hid (Below w.heap.size w wr) ∧ Hid (nthFrom 0 l off = nthFrom k (l.drop k) o)
set_option maxRecDepth 100000 in
set_option maxHeartbeats 2000000 in
theorem nth_any (w : World) (A : Option Addr) (c : Nat) (l : List LLeaf) (off : Int) (h : Reads w w.heap.size 3 A l.length (lcells l)) (hn : l.length ≤ 1000000) (h0 : 0 ≤ off) (h1 : off ≤ 9223372036854775807) :
    Calls Tryz.prog 88 #[.slice A l.length c, .int .i64 off] w (CheckPost w (.int .i64 (nthFrom 0 l off))) := by
  have HR := Lib.hid h
  have HS := Lib.hid (fun w x => seen_any w x)
  clear h
  go_enter Tryz.func88, Tryz.ntmps88
  go_wp2_with fail
  go_loopw [1, 9] (fun x i wr => NthLoop w l off x i wr) (fun _ i _ => l.length - (intOf i).toNat)
  case atStart => exact ⟨0, off, by omega, rfl, rfl, h0, by omega, Below.refl _ _, rfl⟩
  case round =>
    obtain ⟨k, o, hk, rfl, rfl, o0, o1, HB, HN⟩ := hrel
    by_cases hkn : k < l.length
    · obtain ⟨ad, rfl, hb, c0, c1, c2⟩ := (HR.out.below HB.out).leaf hkn
      have hlt : (k : Int) < (l.length : Int) := by omega
      have hdr := HN.out
      rw [List.drop_eq_getElem_cons hkn, nthFrom] at hdr
      generalize l[k] = x at c0 c1 c2 hdr
      have HD := Lib.hid hdr
      have HBa := Lib.hid (HB.out.alloc HB.out.size (.cells #[.string x.place, .int .i64 x.letter, .bool x.struck] 95))
      clear hdr HN
      go_wp2_with fail
      refine (HS.out _ x).mono ?_
      rintro e w1 ⟨rfl, hb1⟩
      have HB1 : Hid (Below w.heap.size w w1) := HBa.out.trans (hb1.mono HBa.out.size)
      clear hb1
      cases hs : seenB x with
      | true =>
        have HD2 : Hid (nthFrom 0 l off = if o = 0 then (k : Int) else nthFrom (k + 1) (l.drop (k + 1)) (o - 1)) := by show _ = _; rw [HD.out, if_pos hs]
        clear HD hs
        by_cases ho : o = 0
        · have HD3 : Hid (nthFrom 0 l off = (k : Int)) := by show _ = _; rw [HD2.out, if_pos ho]
          subst ho
          go_wp2_with fail
          go_ret
          exact ⟨by rw [HD3.out]; rfl, HB1.out⟩
        · have g0 : (o == 0) = false := by simp [ho]
          have HD3 : Hid (nthFrom 0 l off = nthFrom (k + 1) (l.drop (k + 1)) (o - 1)) := by show _ = _; rw [HD2.out, if_neg ho]
          go_wp2_with fail
          go_roundw
          case rel => exact ⟨k + 1, o - 1, by omega, by go_num, rfl, by omega, by omega, HB1, HD3⟩
          case measure => simp [intOf]; omega
      | false =>
        have HD2 : Hid (nthFrom 0 l off = nthFrom (k + 1) (l.drop (k + 1)) o) := by show _ = _; rw [HD.out, hs]; rfl
        clear HD hs
        go_wp2_with fail
        go_roundw
        case rel => exact ⟨k + 1, o, by omega, by go_num, rfl, by omega, by omega, HB1, HD2⟩
        case measure => simp [intOf]; omega
    · have hd : decide ((k : Int) < (l.length : Int)) = false := by simp; omega
      have HF : Hid (nthFrom 0 l off = -1) := by
        have := HN.out
        rw [List.drop_of_length_le (by omega), nthFrom] at this
        exact this
      go_wp2_with fail
      go_ret
      exact ⟨by rw [HF.out]; rfl, HB.out⟩

/-- The place in the list of an offset; the fault. -/
def atErr (l : List LLeaf) (off : Int) : Int := if bookErr l ≠ 0 then bookErr l else if off < 0 ∨ nthFrom 0 l off < 0 then 1 else 0
def AtPost (w : World) (l : List LLeaf) (off : Int) (e : Ending) (w' : World) : Prop := e = .returned (.tuple #[.int .i64 (if atErr l off = 0 then nthFrom 0 l off else 0), errV (atErr l off)]) ∧ Below w.heap.size w w'
end Go.Proofs.YtkaccnegdmpofaaGreatDoor

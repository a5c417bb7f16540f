/- 2 texts in one: each says ahead of itself what is proved, and its conditions. -/
import Derived.Test.YtgmdnmdniidngaaDoorStat2
/- stat.Struck, walked. Conditions: the book is right. -/
namespace Go.Proofs.YtgmdnmdniidngaaDoor
open Go.RowKit
set_option linter.unusedVariables false
def struckOf (l : List LLeaf) : Nat := (l.filter LLeaf.struck).length
theorem struckOf_take {l : List LLeaf} {k : Nat} (h : k < l.length) : struckOf (l.take (k + 1)) = struckOf (l.take k) + if l[k].struck = true then 1 else 0 := by
  unfold struckOf
  rw [List.take_succ_eq_append_getElem h, List.filter_append, List.length_append, List.filter_cons]
  split <;> simp
theorem struckOf_le (l : List LLeaf) : struckOf l ≤ l.length := List.length_filter_le _ _
/-- What is struck and what is seen is all there is. -/
theorem struck_seen {l : List LLeaf} (hb : BookOk l) : struckOf l + (textL l).length = l.length := by
  have key : ∀ l : List LLeaf, (∀ x ∈ l, x.Ok) → struckOf l + (textL l).length = l.length := by
    intro l
    induction l with
    | nil => intro _; rfl
    | cons x l ih =>
      intro h
      have := ih (fun y hy => h y (by simp [hy]))
      have hx := h x (by simp)
      rw [textL_cons', List.length_append]
      unfold struckOf at this ⊢
      rw [List.filter_cons]
      cases hs : x.struck with
      | true =>
        have h1 : ¬ seenB x = true := by simp [seenB, hs]
        rw [if_neg h1, if_pos rfl]; simp; omega
      | false =>
        have h0 : x.letter ≠ 0 := fun h0 => by have := hx.struck h0; rw [hs] at this; cases this
        have h1 : seenB x = true := by simp [seenB, hs, h0]
        rw [if_pos h1, if_neg (by decide)]; simp; omega
  exact key l hb.leafs
def StruckLoop (w : World) (l : List LLeaf) (v i : Value) (wr : World) : Prop := ∃ k : Nat, k ≤ l.length ∧ i = .int .i64 k ∧ v = .int .i64 (struckOf (l.take k) : Int) ∧ Hid (Below w.heap.size w wr)
def StruckPost (w : World) (l : List LLeaf) (e : Ending) (w' : World) : Prop := e = .returned (.tuple #[.int .i64 (struckOf l : Int), .nilIface]) ∧ Below w.heap.size w w'
set_option maxRecDepth 100000 in
set_option maxHeartbeats 8000000 in
theorem struck_any (w : World) (A : Option Addr) (c : Nat) (l : List LLeaf) (h : Reads w w.heap.size 3 A l.length (lcells l)) (hb : BookOk l) :
    Calls Tryd.prog 12 #[.slice A l.length c] w (StruckPost w l) := by
  have HR := Lib.hid h
  have hfew := hb.few
  have HE0 : errV 0 = .nilIface := rfl
  have HCK : Hid (∀ W, Below w.heap.size w W → Calls Tryd.prog 42 #[.slice A l.length c] W (CheckPost W (errV 0))) := fun W hW => by
    have := bookCheck_any W A c l ((h.below hW).more hW.size) (fun x hx => by have := place_small (hb.leafs x hx).place; omega) (by omega)
    rw [bookErr_zero hb] at this
    exact this
  clear h hb
  go_enter Tryd.func12, Tryd.ntmps12
  go_wp2_with fail
  go_loopw [4, 10] (fun v i wr => StruckLoop w l v i wr) (fun _ i _ => l.length - (intOf i).toNat)
  case atStart => exact ⟨0, Nat.zero_le _, rfl, rfl, Below.refl _ _⟩
  case round =>
    obtain ⟨k, hk, rfl, rfl, HB⟩ := hrel
    have k0 : (0 : Int) ≤ (k : Int) := by omega
    by_cases hlt : k < l.length
    · have k1 : (k : Int) < (l.length : Int) := by omega
      obtain ⟨ad, rfl, _, c0, c1, c2⟩ := (HR.out.below HB.out).leaf hlt
      have HT := Lib.hid (struckOf_take hlt)
      have hsl := struckOf_le (l.take k)
      rw [List.length_take] at hsl
      generalize struckOf (l.take k) = m at *
      have q1 : IntKind.i64.wrap ((m : Int) + 1) = (m : Int) + 1 := IntWalk.i64_in _ (by omega)
      generalize l[k] = x at *
      obtain ⟨p, n, s⟩ := x
      simp only at c0 c1 c2 HT
      have HBX : Hid (Below w.heap.size w (wr.alloc (.cells #[.string p, .int .i64 n, .bool s] 29))) := HB.out.alloc HB.out.size _
      cases s with
      | false =>
        simp only [Bool.false_eq_true, if_false, Nat.add_zero] at HT
        go_wp2_with fail
        go_roundw
        case rel => exact ⟨k + 1, by omega, by go_num, by rw [HT.out], HBX⟩
        case measure => simp [intOf]; omega
      | true =>
        simp only [if_true] at HT
        go_wp2_with fail
        go_roundw
        case rel => exact ⟨k + 1, by omega, by go_num, by rw [HT.out]; go_num, HBX⟩
        case measure => simp [intOf]; omega
    · have k1 : ¬ (k : Int) < (l.length : Int) := by omega
      obtain rfl : k = l.length := by omega
      have HC := Lib.hid (HCK.out _ HB.out)
      rw [List.take_length]
      generalize hm : struckOf l = m at *
      have HM := Lib.hid hm
      clear hm
      go_wp2_with fail
      refine HC.out.mono ?_
      rintro e w2 ⟨rfl, hb2⟩
      rw [HE0]
      have HB2 := Lib.hid (HB.out.trans (hb2.mono HB.out.size))
      clear hb2
      go_wp2_with fail
      go_ret2
      exact ⟨by rw [HM.out]; rfl, HB2.out⟩
end Go.Proofs.YtgmdnmdniidngaaDoor
/- stat.Longest, walked; what package stat says of a wrong book. Conditions: an int counts the leafs. -/
namespace Go.Proofs.YtgmdnmdniidngaaDoor
open Go.RowKit
set_option linter.unusedVariables false
def longOf (l : List LLeaf) : Nat := l.foldl (fun m x => max m x.place.size) 0
theorem longOf_take {l : List LLeaf} {k : Nat} (h : k < l.length) : longOf (l.take (k + 1)) = max (longOf (l.take k)) l[k].place.size := by
  unfold longOf
  rw [List.take_succ_eq_append_getElem h, List.foldl_append]
  rfl
def LongLoop (w : World) (l : List LLeaf) (v i : Value) (wr : World) : Prop := ∃ k : Nat, k ≤ l.length ∧ i = .int .i64 k ∧ v = .int .i64 (longOf (l.take k) : Int) ∧ Hid (Below w.heap.size w wr)
def StatPost (w : World) (v : Value) (k : Int) (e : Ending) (w' : World) : Prop := e = .returned (.tuple #[v, errV k]) ∧ Below w.heap.size w w'
set_option maxRecDepth 100000 in
set_option maxHeartbeats 8000000 in
theorem longest_any (w : World) (A : Option Addr) (c : Nat) (l : List LLeaf) (h : Reads w w.heap.size 3 A l.length (lcells l)) (hb : BookOk l) :
    Calls Tryd.prog 14 #[.slice A l.length c] w (StatPost w (.int .i64 (longOf l : Int)) 0) := by
  have HR := Lib.hid h
  have hfew := hb.few
  have HE0 : errV 0 = .nilIface := rfl
  have HBO := Lib.hid hb
  have HCK : Hid (Calls Tryd.prog 42 #[.slice A l.length c] w (CheckPost w (errV 0))) := by
    have := bookCheck_any w A c l h (fun x hx => by have := place_small (hb.leafs x hx).place; omega) (by omega)
    rw [bookErr_zero hb] at this
    exact this
  clear h hb
  go_enter Tryd.func14, Tryd.ntmps14
  go_wp2_with fail
  refine HCK.out.mono ?_
  rintro e w1 ⟨rfl, hb1⟩
  rw [HE0]
  have HB1 := Lib.hid hb1
  clear hb1 HE0
  go_wp2_with fail
  go_loopw [5, 15] (fun v i wr => LongLoop w l v i wr) (fun _ i _ => l.length - (intOf i).toNat)
  case atStart => exact ⟨0, Nat.zero_le _, rfl, rfl, HB1.out⟩
  case round =>
    obtain ⟨k, hk, rfl, rfl, HB⟩ := hrel
    have k0 : (0 : Int) ≤ (k : Int) := by omega
    by_cases hlt : k < l.length
    · have k1 : (k : Int) < (l.length : Int) := by omega
      obtain ⟨ad, rfl, _, c0, c1, c2⟩ := (HR.out.below HB.out).leaf hlt
      have HT := Lib.hid (longOf_take hlt)
      generalize longOf (l.take k) = m at *
      generalize l[k] = x at *
      obtain ⟨p, n, s⟩ := x
      simp only at c0 c1 c2 HT
      have hmx : ∀ W, (Builtin.max_ #[3, 3] 3 #[.int .i64 (m : Int), .int .i64 (p.size : Int)]).run Tryd.prog W = .ok (.int .i64 ((max m p.size : Nat) : Int)) W := fun W => by rw [run_max_int2]; congr 2; split <;> omega
      have HBX : Hid (Below w.heap.size w (wr.alloc (.cells #[.string p, .int .i64 n, .bool s] 29))) := HB.out.alloc HB.out.size _
      generalize max m p.size = m2 at *
      go_wp2_with fail
      go_roundw
      case rel => exact ⟨k + 1, by omega, by go_num, by rw [HT.out], HBX⟩
      case measure => simp [intOf]; omega
    · have k1 : ¬ (k : Int) < (l.length : Int) := by omega
      obtain rfl : k = l.length := by omega
      rw [List.take_length]
      generalize longOf l = m at *
      go_wp2_with fail
      go_ret2
      exact ⟨rfl, HB.out⟩
section
variable (w : World) (A : Option Addr) (c : Nat) (l : List LLeaf) (h : Reads w w.heap.size 3 A l.length (lcells l)) (hs : Sized l) (hn : l.length ≤ 9223372036854775807) (hne : bookErr l ≠ 0)
include h hs hn hne
set_option maxRecDepth 100000 in
set_option maxHeartbeats 8000000 in
theorem longest_bad : Calls Tryd.prog 14 #[.slice A l.length c] w (StatPost w (.int .i64 0) (bookErr l)) := by
  have HCK := Lib.hid (bookCheck_any w A c l h hs hn)
  have HV := Lib.hid (errV_ne hne)
  clear h hs hne
  generalize bookErr l = k at *
  go_enter Tryd.func14, Tryd.ntmps14
  go_wp2_with fail
  refine HCK.out.mono ?_
  rintro e w1 ⟨rfl, hb1⟩
  rw [HV.out]
  go_wp2_with fail
  go_ret2
  exact ⟨by rw [HV.out]; rfl, hb1⟩
set_option maxRecDepth 100000 in
set_option maxHeartbeats 8000000 in
theorem runs_bad : Calls Tryd.prog 13 #[.slice A l.length c] w (StatPost w (.slice none 0 0) (bookErr l)) := by
  have HCK := Lib.hid (bookCheck_any w A c l h hs hn)
  have HV := Lib.hid (errV_ne hne)
  clear h hs hne
  generalize bookErr l = k at *
  go_enter Tryd.func13, Tryd.ntmps13
  go_wp2_with fail
  refine HCK.out.mono ?_
  rintro e w1 ⟨rfl, hb1⟩
  rw [HV.out]
  go_wp2_with fail
  go_ret2
  exact ⟨by rw [HV.out]; rfl, hb1⟩
set_option maxRecDepth 100000 in
set_option maxHeartbeats 8000000 in
theorem written_bad : Calls Tryd.prog 9 #[.slice A l.length c] w (StatPost w (.slice none 0 0) (bookErr l)) := by
  have HCK := Lib.hid (runs_bad w A c l h hs hn hne)
  have HV := Lib.hid (errV_ne hne)
  clear h hs hne
  generalize bookErr l = k at *
  go_enter Tryd.func9, Tryd.ntmps9
  go_wp2_with fail
  refine HCK.out.mono ?_
  rintro e w1 ⟨rfl, hb1⟩
  rw [HV.out]
  go_wp2_with fail
  go_ret2
  exact ⟨by rw [HV.out]; rfl, hb1⟩
set_option maxRecDepth 100000 in
set_option maxHeartbeats 8000000 in
theorem struck_bad : Calls Tryd.prog 12 #[.slice A l.length c] w (StatPost w (.int .i64 0) (bookErr l)) := by
  have HR := Lib.hid h
  have HCK := Lib.hid (fun W (hW : Below w.heap.size w W) => bookCheck_any W A c l ((h.below hW).more hW.size) hs hn)
  have HV := Lib.hid (errV_ne hne)
  clear h hs hne
  generalize bookErr l = kk at *
  go_enter Tryd.func12, Tryd.ntmps12
  go_wp2_with fail
  go_loopw [4, 10] (fun v i wr => StruckLoop w l v i wr) (fun _ i _ => l.length - (intOf i).toNat)
  case atStart => exact ⟨0, Nat.zero_le _, rfl, rfl, Below.refl _ _⟩
  case round =>
    obtain ⟨k, hk, rfl, rfl, HB⟩ := hrel
    have k0 : (0 : Int) ≤ (k : Int) := by omega
    by_cases hlt : k < l.length
    · have k1 : (k : Int) < (l.length : Int) := by omega
      obtain ⟨ad, rfl, _, c0, c1, c2⟩ := (HR.out.below HB.out).leaf hlt
      have HT := Lib.hid (struckOf_take hlt)
      have hsl := struckOf_le (l.take k)
      rw [List.length_take] at hsl
      generalize struckOf (l.take k) = m at *
      have q1 : IntKind.i64.wrap ((m : Int) + 1) = (m : Int) + 1 := IntWalk.i64_in _ (by omega)
      generalize l[k] = x at *
      obtain ⟨p, n, s⟩ := x
      simp only at c0 c1 c2 HT
      have HBX : Hid (Below w.heap.size w (wr.alloc (.cells #[.string p, .int .i64 n, .bool s] 29))) := HB.out.alloc HB.out.size _
      cases s with
      | false =>
        simp only [Bool.false_eq_true, if_false, Nat.add_zero] at HT
        go_wp2_with fail
        go_roundw
        case rel => exact ⟨k + 1, by omega, by go_num, by rw [HT.out], HBX⟩
        case measure => simp [intOf]; omega
      | true =>
        simp only [if_true] at HT
        go_wp2_with fail
        go_roundw
        case rel => exact ⟨k + 1, by omega, by go_num, by rw [HT.out]; go_num, HBX⟩
        case measure => simp [intOf]; omega
    · have k1 : ¬ (k : Int) < (l.length : Int) := by omega
      obtain rfl : k = l.length := by omega
      have HC := Lib.hid (HCK.out _ HB.out)
      rw [List.take_length]
      generalize struckOf l = m at *
      go_wp2_with fail
      refine HC.out.mono ?_
      rintro e w2 ⟨rfl, hb2⟩
      rw [HV.out]
      have HB2 := Lib.hid (HB.out.trans (hb2.mono HB.out.size))
      clear hb2
      go_wp2_with fail
      go_ret2
      exact ⟨by rw [HV.out]; rfl, HB2.out⟩
end
end Go.Proofs.YtgmdnmdniidngaaDoor

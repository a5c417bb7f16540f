/- EITHER WAY ROUND: the law BookEither answers true. Conditions: none. -/
import Derived.Test.YtikbcpljhjfoiaaBookLaw
import Derived.Test.YtikbcpljhjfoiaaSameLeafs
import Derived.Test.YtikbcpljhjfoiaaOpenDir
import Derived.Test.YtikbcpljhjfoiaaLift
import Derived.Test.YtikbcpljhjfoiaaFive
namespace Go.Proofs.Ytikbcpljhjfoiaa
open Go.RowKit Go.WideShapes Go.ChangeShapes Go.ChangeAt
set_option linter.unusedVariables false
namespace lawBookEither
/-- A book as it is handed back. -/
def wL (l : List LLeaf) (p : ByteArray) (n : Int) : List LLeaf := giveL (writeErr l p n) (writeRes l p n)
def sL (l : List LLeaf) (p : ByteArray) : List LLeaf := giveL (strikeErr l p) (strikeRes l p)
theorem wL_len (l : List LLeaf) (p : ByteArray) (n : Int) : (wL l p n).length ≤ 300 := by
  unfold wL giveL
  split
  · next h => exact (write_book h).few
  · simp
theorem sL_len (l : List LLeaf) (p : ByteArray) : (sL l p).length ≤ 300 := by
  unfold sL giveL
  split
  · next h => exact (strike_book h).few
  · simp
theorem ok_sized {l : List LLeaf} (h : BookOk l) : Sized l := by
  intro x hx
  have := (h.leafs x hx).place
  unfold placeErr at this
  by_cases h1 : 12 < x.place.size
  · rw [if_pos h1] at this; omega
  · omega
theorem wL_sized (l : List LLeaf) (p : ByteArray) (n : Int) : Sized (wL l p n) := by
  unfold wL giveL
  split
  · next h => exact ok_sized (write_book h)
  · intro x hx; simp at hx
theorem sL_sized (l : List LLeaf) (p : ByteArray) : Sized (sL l p) := by
  unfold sL giveL
  split
  · next h => exact ok_sized (strike_book h)
  · intro x hx; simp at hx
theorem either_one {l : List LLeaf} {p q : ByteArray} {n : Int} (h1 : writeErr l p n = 0) (h2 : strikeErr (wL l p n) q = 0) (h3 : strikeErr l q = 0) (h4 : writeErr (sL l q) p n = 0) : sL (wL l p n) q = wL (sL l q) p n := by
  have e1 : wL l p n = writeRes l p n := if_pos h1
  have e2 : sL l q = strikeRes l q := if_pos h3
  have e3 : sL (wL l p n) q = strikeRes (wL l p n) q := if_pos h2
  have e4 : wL (sL l q) p n = writeRes (sL l q) p n := if_pos h4
  rw [e3, e4, e1, e2]
  exact write_strike (write_ok h1).1.rising p q n
theorem either_two {l : List LLeaf} {p q : ByteArray} {n m : Int} (h1 : writeErr l p n = 0) (h2 : writeErr (wL l p n) q m = 0) (h3 : writeErr l q m = 0) (h4 : writeErr (wL l q m) p n = 0) : wL (wL l p n) q m = wL (wL l q m) p n := by
  have e1 : wL l p n = writeRes l p n := if_pos h1
  have e2 : wL l q m = writeRes l q m := if_pos h3
  have e3 : wL (wL l p n) q m = writeRes (wL l p n) q m := if_pos h2
  have e4 : wL (wL l q m) p n = writeRes (wL l q m) p n := if_pos h4
  rw [e3, e4, e1, e2]
  refine write_write (write_ok h1).1.rising p q n m ?_
  by_cases h : p = q
  · subst h
    rw [e1] at h2
    exact .inr (write_twice h1 h2)
  · exact .inl h
theorem tl_cons (x : LLeaf) (l : List LLeaf) : textL (x :: l) = (if seenB x = true then [u8 x.letter] else []) ++ textL l := by
  unfold textL
  rw [List.filter_cons]
  split <;> simp
theorem nth_at : ∀ (l : List LLeaf) (i b : Nat) (hi : i < l.length), seenB l[i] = true → nthFrom b l ((textL (l.take i)).length : Int) = ((b + i : Nat) : Int) := by
  intro l
  induction l with
  | nil => intro i b hi; simp at hi
  | cons x l ih =>
    intro i b hi hs
    cases i with
    | zero =>
      have hs' : seenB x = true := hs
      unfold nthFrom
      rw [if_pos hs', if_pos (by simp [textL])]
      rfl
    | succ i =>
      have h := ih i (b + 1) (by simpa using hi) (by simpa using hs)
      rw [List.take_succ_cons, tl_cons]
      unfold nthFrom
      by_cases hx : seenB x = true
      · rw [if_pos hx, if_pos hx, if_neg (by simp; omega)]
        rw [show ((([u8 x.letter] ++ textL (l.take i)).length : Nat) : Int) - 1 = ((textL (l.take i)).length : Int) by simp, h]
        omega
      · rw [if_neg hx, if_neg hx, List.nil_append, h]; omega
theorem text_at {l : List LLeaf} {i : Nat} (hi : i < l.length) (hs : seenB l[i] = true) : (textL l)[(textL (l.take i)).length]? = some (u8 l[i].letter) := by
  have e : textL l = textL (l.take i) ++ textL (l.drop i) := by
    unfold textL
    rw [← List.map_append, ← List.filter_append, List.take_append_drop]
  rw [List.drop_eq_getElem_cons hi, tl_cons, if_pos hs] at e
  rw [e, List.getElem?_append_right (Nat.le_refl _), Nat.sub_self]
  rfl
/-- What holds of what was written. -/
structure Wrote (a : List LLeaf) (p : ByteArray) (n : Int) (i : Nat) : Prop where
  ok : BookOk a
  pl : placeErr p = 0
  err : bookErr a = 0
  ready : bookReady a p = 0
  has : hasAt a p = true
  at_ : ahead a p = i
  lt : i < a.length
  letter : (a[i]'lt).letter = n
  range : 32 ≤ n ∧ n ≤ 126
theorem wrote {l : List LLeaf} {p : ByteArray} {n : Int} (h : writeErr l p n = 0) : ∃ i, Wrote (wL l p n) p n i := by
  have e1 : wL l p n = writeRes l p n := if_pos h
  rw [e1]
  have hb := write_book h
  obtain ⟨b, c, h3, _, _⟩ := write_ok h
  have ep : ((old l p).write n).place = p := old_place l p
  have hh : hasAt (writeRes l p n) p = true := by rw [write_upd, hasAt_upd b.rising, ep]; simp
  have hlt := hasAt_lt hh
  refine ⟨_, hb, c, bookErr_zero hb, ?_, hh, rfl, hlt, ?_, letterB_range h3⟩
  · unfold bookReady; rw [if_neg (fun x => x (bookErr_zero hb)), c]
  · have h4 : old (writeRes l p n) p = (old l p).write n := by rw [write_upd, old_upd b.rising, ep, if_pos rfl]
    unfold old at h4
    rw [if_pos hh] at h4
    have h5 : leafAt (writeRes l p n) p = (writeRes l p n)[ahead (writeRes l p n) p] := by unfold leafAt; simp [List.getD, hlt]
    rw [← h5, h4]
    rfl
def nb : ByteArray := ⟨#[110, 98]⟩
theorem fact : writeErr [] nb 104 = 0 ∧ wL [] nb 104 = [⟨nb, 104, false⟩] := by
  have h : writeErr [] nb 104 = 0 := by decide +kernel
  refine ⟨h, ?_⟩
  unfold wL
  rw [h, giveL, if_pos rfl]
  rfl
def zeros (a b c d : Int) : Bool := a == 0 && (b == 0 && (c == 0 && d == 0))
theorem zeros_true {a b c d : Int} (h : zeros a b c d = true) : a = 0 ∧ b = 0 ∧ c = 0 ∧ d = 0 := by
  simpa [zeros] using h
set_option maxRecDepth 100000 in
set_option maxHeartbeats 8000000 in
theorem walk (w : World) (A : Option Addr) (c : Nat) (l : List LLeaf) (p q : ByteArray) (n m : Int) (h : Reads w w.heap.size 3 A l.length (lcells l)) (hs : Sized l) (hc : l.length ≤ c) (hcm : c ≤ 9223372036854775807)
    (hp : p.size ≤ 9223372036854775807) (hq : q.size ≤ 9223372036854775807) :
    Calls Try.prog 3 #[.slice A l.length c, .string p, .string q, .int .i64 n, .int .i64 m] w (CheckPost w (.bool true)) := by
  have HR : Hid (∀ W, Below w.heap.size w W → Reads W W.heap.size 3 A l.length (lcells l)) := fun W hb => (h.below hb).more hb.size
  have KW := Lib.hid (fun W V cv X p n (hr : Reads W W.heap.size 3 V X.length (lcells X)) (hs : Sized X) (hn : X.length ≤ 9223372036854775807) (hp : p.size ≤ 9223372036854775807) => write_any W V cv X p n hr hs hn hp)
  have KS := Lib.hid (fun W V cv X p (hr : Reads W W.heap.size 3 V X.length (lcells X)) (hs : Sized X) (hn : X.length ≤ 9223372036854775807) (hp : p.size ≤ 9223372036854775807) => strike_any W V cv X p hr hs hn hp)
  have HP : Hid (p.size ≤ 9223372036854775807) := hp
  have HQ : Hid (q.size ≤ 9223372036854775807) := hq
  have HS : Hid (Sized l) := hs
  have HN : Hid (l.length ≤ 9223372036854775807) := by show _ ≤ _; omega
  clear h hs hc hcm hp hq
  go_enter Try.func3, Try.ntmps3
  go_wp2_with fail
  refine (KW.out _ none 0 [] nb 104 Reads.none_ (by intro x hx; simp at hx) (by simp) (by decide)).mono ?_
  rintro e w1 ⟨V0, c0, rfl, hO, hb1⟩
  rw [show giveL (writeErr [] nb 104) (writeRes [] nb 104) = [⟨nb, 104, false⟩] from fact.2] at hO ⊢
  rw [fact.1, show errV 0 = .nilIface from rfl]
  obtain ⟨g0, rfl, _, _⟩ := hO.head (by simp)
  have k1 : w1.cell? ⟨g0, 1, none⟩ = some (.int .i64 104) := by rw [hO.cellAt (by simp)]; rfl
  have k2 : w1.cell? ⟨g0, 2, none⟩ = some (.bool false) := by rw [hO.cellAt (by simp)]; rfl
  have HB1 := Lib.hid hb1
  clear hb1 hO
  go_wp2_with fail
  refine (KW.out _ A c l p n (HR.out _ HB1.out) HS.out HN.out HP.out).mono ?_
  rintro e w2 ⟨Va, ca, rfl, hO, hb⟩
  have HA : Hid (∀ W, Below w2.heap.size w2 W → Reads W W.heap.size 3 Va (wL l p n).length (lcells (wL l p n))) := fun W hb => (hO.reads.below hb).more hb.size
  have HB2 := Lib.hid (HB1.out.trans (hb.mono HB1.out.size))
  rw [show giveL (writeErr l p n) (writeRes l p n) = wL l p n from rfl]
  have HAC : Hid ((wL l p n).length ≤ ca ∧ ca ≤ 9223372036854775807) := ⟨hO.cap_le, by have := hO.cap_max; unfold maxLen at this; exact this⟩
  clear hO hb HB1 k1 k2
  have HAL := Lib.hid (wL_len l p n)
  have HAS := Lib.hid (wL_sized l p n)
  have H1 := Lib.hid (fun h1 h2 h3 h4 => either_one (l := l) (p := p) (q := q) (n := n) h1 h2 h3 h4)
  have H2 := Lib.hid (fun h1 h2 h3 h4 => either_two (l := l) (p := p) (q := q) (n := n) (m := m) h1 h2 h3 h4)
  have HW := Lib.hid (fun h => wrote (l := l) (p := p) (n := n) h)
  generalize wL l p n = a at *
  generalize writeErr l p n = e1 at *
  go_wp2_with fail
  refine (KS.out _ Va ca a q (HA.out _ (Below.refl _ _)) HAS.out (by have := HAL.out; omega) HQ.out).mono ?_
  rintro e w3 ⟨Vb, cb, rfl, hO, hb⟩
  have HA3 : Hid (Below w2.heap.size w2 w3) := hb
  have HBr : Hid (∀ W, Below w3.heap.size w3 W → Reads W W.heap.size 3 Vb (sL a q).length (lcells (sL a q))) := fun W hb => (hO.reads.below hb).more hb.size
  rw [show giveL (strikeErr a q) (strikeRes a q) = sL a q from rfl]
  have HB3 := Lib.hid (HB2.out.trans (hb.mono HB2.out.size))
  clear hO hb
  have HBL := Lib.hid (sL_len a q)
  generalize sL a q = b at *
  generalize strikeErr a q = e2 at *
  go_wp2_with fail
  refine (KS.out _ A c l q (HR.out _ HB3.out) HS.out HN.out HQ.out).mono ?_
  rintro e w4 ⟨Vc, cc, rfl, hO, hb⟩
  have HB4 : Hid (Below w3.heap.size w3 w4) := hb
  have HCr : Hid (Reads w4 w4.heap.size 3 Vc (sL l q).length (lcells (sL l q))) := hO.reads
  rw [show giveL (strikeErr l q) (strikeRes l q) = sL l q from rfl]
  clear hO hb
  have HCL := Lib.hid (sL_len l q)
  have HCS := Lib.hid (sL_sized l q)
  generalize sL l q = cl at *
  generalize strikeErr l q = e3 at *
  go_wp2_with fail
  refine (KW.out _ Vc cc cl p n HCr.out HCS.out (by have := HCL.out; omega) HP.out).mono ?_
  rintro e w5 ⟨Vd, cd, rfl, hO, hb⟩
  have HB5 : Hid (Below w3.heap.size w3 w5) := HB4.out.trans (hb.mono HB4.out.size)
  have HDr : Hid (Reads w5 w5.heap.size 3 Vd (wL cl p n).length (lcells (wL cl p n))) := hO.reads
  rw [show giveL (writeErr cl p n) (writeRes cl p n) = wL cl p n from rfl]
  clear hO hb HCr HCL HCS HB4
  have HDL := Lib.hid (wL_len cl p n)
  generalize wL cl p n = d at *
  generalize writeErr cl p n = e4 at *
  go_upto_region 8 with (fail)
  go_cut [14, 16, 18, 20, 94] (fun x1 x2 x3 x4 v wx => x1 = errV e1 ∧ x2 = errV e2 ∧ x3 = errV e3 ∧ x4 = errV e4 ∧ v = .bool (zeros e1 e2 e3 e4) ∧ wx = w5)
  case first => as_aux_lemma =>
    by_cases z1 : e1 = 0
    · subst z1
      rw [show errV 0 = .nilIface from rfl]
      by_cases z2 : e2 = 0
      · subst z2
        rw [show errV 0 = .nilIface from rfl]
        by_cases z3 : e3 = 0
        · subst z3
          rw [show errV 0 = .nilIface from rfl]
          by_cases z4 : e4 = 0
          · subst z4
            rw [show errV 0 = .nilIface from rfl]
            have Z : Hid (zeros 0 0 0 0 = true) := rfl
            go_wp2_with fail
            go_meet
            case rel => exact ⟨rfl, rfl, rfl, rfl, by rw [Z.out], rfl⟩
          · have Z : Hid (zeros 0 0 0 e4 = false) := by show _ = _; simp [zeros, z4]
            have HV := Lib.hid (errV_ne z4)
            rw [HV.out]
            clear z4
            go_wp2_with fail
            go_meet
            case rel => exact ⟨rfl, rfl, rfl, HV.out.symm, by rw [Z.out], rfl⟩
        · have Z : Hid (zeros 0 0 e3 e4 = false) := by show _ = _; simp [zeros, z3]
          have HV := Lib.hid (errV_ne z3)
          rw [HV.out]
          clear z3
          go_wp2_with fail
          go_meet
          case rel => exact ⟨rfl, rfl, HV.out.symm, rfl, by rw [Z.out], rfl⟩
      · have Z : Hid (zeros 0 e2 e3 e4 = false) := by show _ = _; simp [zeros, z2]
        have HV := Lib.hid (errV_ne z2)
        rw [HV.out]
        clear z2
        go_wp2_with fail
        go_meet
        case rel => exact ⟨rfl, HV.out.symm, rfl, rfl, by rw [Z.out], rfl⟩
    · have Z : Hid (zeros e1 e2 e3 e4 = false) := by show _ = _; simp [zeros, z1]
      have HV := Lib.hid (errV_ne z1)
      rw [HV.out]
      clear z1
      go_wp2_with fail
      go_meet
      case rel => exact ⟨HV.out.symm, rfl, rfl, rfl, by rw [Z.out], rfl⟩
  case rest => as_aux_lemma =>
    obtain ⟨rfl, rfl, rfl, rfl, rfl, hwc⟩ := hcut
    subst wc
    go_upto_if 94 with (fail)
    go_cut [] (fun wx => Hid (Below w3.heap.size w3 wx))
    case first => as_aux_lemma =>
      cases hz : zeros e1 e2 e3 e4 with
      | true =>
        obtain ⟨z1, z2, z3, z4⟩ := zeros_true hz
        have HE : Hid (b = d) := H1.out z1 z2 z3 z4
        have HD : Hid (decide (b = d) = true) := decide_eq_true HE.out
        clear z1 z2 z3 z4 hz
        go_wp2_with fail
        refine (SameLeafs.any _ Vb Vd cb cd b d (HBr.out _ HB5.out) HDr.out (by have := HBL.out; omega) (by have := HDL.out; omega)).mono ?_
        rintro e w6 ⟨rfl, hb6⟩
        rw [HD.out]
        have HB6 := Lib.hid (HB5.out.trans (hb6.mono HB5.out.size))
        clear hb6
        go_wp2_with fail
        go_meet
        case rel => exact HB6
      | false =>
        clear hz
        go_wp2_with fail
        go_meet
        case rel => exact HB5
    case rest => as_aux_lemma =>
      have HBx := Lib.hid hcut
      clear HBr HDr HB5 HBL HDL H1
      have HAW : Hid (∀ W, Below w3.heap.size w3 W → Reads W W.heap.size 3 Va a.length (lcells a)) := fun W hb => HA.out W (HA3.out.trans (hb.mono HA3.out.size))
      clear HA
      go_wp2_with fail
      refine (KW.out _ Va ca a q m (HAW.out _ HBx.out.out) HAS.out (by have := HAL.out; omega) HQ.out).mono ?_
      rintro e w7 ⟨Vb, cb, rfl, hO, hb⟩
      have HBr : Hid (∀ W, Below w7.heap.size w7 W → Reads W W.heap.size 3 Vb (wL a q m).length (lcells (wL a q m))) := fun W hb => (hO.reads.below hb).more hb.size
      rw [show giveL (writeErr a q m) (writeRes a q m) = wL a q m from rfl]
      have HB7 := Lib.hid (HBx.out.out.trans (hb.mono HBx.out.out.size))
      clear hO hb
      have HBL := Lib.hid (wL_len a q m)
      generalize wL a q m = b at *
      generalize writeErr a q m = e2 at *
      go_wp2_with fail
      refine (KW.out _ A c l q m (HR.out _ (HB3.out.trans (HB7.out.mono HB3.out.size))) HS.out HN.out HQ.out).mono ?_
      rintro e w8 ⟨Vc, cc, rfl, hO, hb⟩
      have HB8 : Hid (Below w7.heap.size w7 w8) := hb
      have HCr : Hid (Reads w8 w8.heap.size 3 Vc (wL l q m).length (lcells (wL l q m))) := hO.reads
      rw [show giveL (writeErr l q m) (writeRes l q m) = wL l q m from rfl]
      clear hO hb
      have HCL := Lib.hid (wL_len l q m)
      have HCS := Lib.hid (wL_sized l q m)
      generalize wL l q m = cl at *
      generalize writeErr l q m = e3 at *
      go_wp2_with fail
      refine (KW.out _ Vc cc cl p n HCr.out HCS.out (by have := HCL.out; omega) HP.out).mono ?_
      rintro e w9 ⟨Vd, cd, rfl, hO, hb⟩
      have HB9 : Hid (Below w7.heap.size w7 w9) := HB8.out.trans (hb.mono HB8.out.size)
      have HDr : Hid (Reads w9 w9.heap.size 3 Vd (wL cl p n).length (lcells (wL cl p n))) := hO.reads
      rw [show giveL (writeErr cl p n) (writeRes cl p n) = wL cl p n from rfl]
      clear hO hb HCr HCL HCS HB8
      have HDL := Lib.hid (wL_len cl p n)
      generalize wL cl p n = d at *
      generalize writeErr cl p n = e4 at *
      go_upto_region 15 with (fail)
      go_cut [14, 16, 18, 20, 134] (fun x1 x2 x3 x4 v wx => x1 = errV e1 ∧ x2 = errV e2 ∧ x3 = errV e3 ∧ x4 = errV e4 ∧ v = .bool (zeros e1 e2 e3 e4) ∧ wx = w9)
      case first => as_aux_lemma =>
        by_cases z1 : e1 = 0
        · subst z1
          rw [show errV 0 = .nilIface from rfl]
          by_cases z2 : e2 = 0
          · subst z2
            rw [show errV 0 = .nilIface from rfl]
            by_cases z3 : e3 = 0
            · subst z3
              rw [show errV 0 = .nilIface from rfl]
              by_cases z4 : e4 = 0
              · subst z4
                rw [show errV 0 = .nilIface from rfl]
                have Z : Hid (zeros 0 0 0 0 = true) := rfl
                go_wp2_with fail
                go_meet
                case rel => exact ⟨rfl, rfl, rfl, rfl, by rw [Z.out], rfl⟩
              · have Z : Hid (zeros 0 0 0 e4 = false) := by show _ = _; simp [zeros, z4]
                have HV := Lib.hid (errV_ne z4)
                rw [HV.out]
                clear z4
                go_wp2_with fail
                go_meet
                case rel => exact ⟨rfl, rfl, rfl, HV.out.symm, by rw [Z.out], rfl⟩
            · have Z : Hid (zeros 0 0 e3 e4 = false) := by show _ = _; simp [zeros, z3]
              have HV := Lib.hid (errV_ne z3)
              rw [HV.out]
              clear z3
              go_wp2_with fail
              go_meet
              case rel => exact ⟨rfl, rfl, HV.out.symm, rfl, by rw [Z.out], rfl⟩
          · have Z : Hid (zeros 0 e2 e3 e4 = false) := by show _ = _; simp [zeros, z2]
            have HV := Lib.hid (errV_ne z2)
            rw [HV.out]
            clear z2
            go_wp2_with fail
            go_meet
            case rel => exact ⟨rfl, HV.out.symm, rfl, rfl, by rw [Z.out], rfl⟩
        · have Z : Hid (zeros e1 e2 e3 e4 = false) := by show _ = _; simp [zeros, z1]
          have HV := Lib.hid (errV_ne z1)
          rw [HV.out]
          clear z1
          go_wp2_with fail
          go_meet
          case rel => exact ⟨HV.out.symm, rfl, rfl, rfl, by rw [Z.out], rfl⟩
      case rest => as_aux_lemma =>
        obtain ⟨rfl, rfl, rfl, rfl, rfl, hwc⟩ := hcut
        subst wc
        go_upto_if 134 with (fail)
        go_cut [] (fun wx => Hid (Below w7.heap.size w7 wx))
        case first => as_aux_lemma =>
          cases hz : zeros e1 e2 e3 e4 with
          | true =>
            obtain ⟨z1, z2, z3, z4⟩ := zeros_true hz
            have HE : Hid (b = d) := H2.out z1 z2 z3 z4
            have HD : Hid (decide (b = d) = true) := decide_eq_true HE.out
            clear z1 z2 z3 z4 hz
            go_wp2_with fail
            refine (SameLeafs.any _ Vb Vd cb cd b d (HBr.out _ HB9.out) HDr.out (by have := HBL.out; omega) (by have := HDL.out; omega)).mono ?_
            rintro e w10 ⟨rfl, hb6⟩
            rw [HD.out]
            have HB10 := Lib.hid (HB9.out.trans (hb6.mono HB9.out.size))
            clear hb6
            go_wp2_with fail
            go_meet
            case rel => exact HB10
          | false =>
            clear hz
            go_wp2_with fail
            go_meet
            case rel => exact HB9
        case rest => as_aux_lemma =>
          have HBy := Lib.hid hcut
          have HB3c : Hid (Below w3.heap.size w3 wc) := HB7.out.trans (hcut.out.mono HB7.out.size)
          have HBw : Hid (Below w.heap.size w wc) := HB3.out.trans (HB3c.out.mono HB3.out.size)
          clear HBr HDr HB9 HBL HDL H2 HBy
          by_cases z1 : e1 = 0
          · obtain ⟨i, wr⟩ := HW.out z1
            subst z1
            rw [show errV 0 = .nilIface from rfl]
            have WR := Lib.hid wr
            have hi := wr.lt
            have hal := HAL.out
            obtain ⟨hc1, hc2⟩ := HAC.out
            have KF := Lib.hid (fun W hb => find_any W Va ca a p (HAW.out W hb) (by omega) WR.out.ok.rising)
            have KT := Lib.hid (fun W hb => text_any W Va ca a (HAW.out W hb) HAS.out (by omega))
            have KO := Lib.hid (fun W hb => offset_any W Va ca a p (HAW.out W hb) HAS.out hc1 hc2 HP.out)
            have KLF : Hid (∀ W, Below w3.heap.size w3 W → ∃ ad, Va = some ad ∧ W.cell? ⟨(ad.add (i * 3)).block, (ad.add (i * 3)).off + 1, none⟩ = some (.int .i64 n) ∧ W.cell? ⟨(ad.add (i * 3)).block, (ad.add (i * 3)).off + 2, none⟩ = some (.bool (a[i]'hi).struck)) := fun W hb => by
              obtain ⟨ad, e, _, _, q1, q2⟩ := (HAW.out W hb).leaf hi
              rw [WR.out.letter] at q1
              exact ⟨ad, e, q1, q2⟩
            have i0 : (0 : Int) ≤ (i : Int) := by omega
            have i1 : (i : Int) < (a.length : Int) := by omega
            have g1 : (n != n) = false := by simp
            clear wr
            go_wp2_with fail
            refine (KF.out _ HB3c.out).mono ?_
            rintro e w11 ⟨rfl, hb⟩
            rw [WR.out.at_, WR.out.has]
            have HB11 := Lib.hid (HB3c.out.trans (hb.mono HB3c.out.size))
            clear hb
            go_wp2_with fail
            refine (KT.out _ HB11.out).mono ?_
            rintro e w12 ⟨rfl, hb⟩
            rw [if_pos WR.out.err, WR.out.err, show errV 0 = .nilIface from rfl]
            have HB12 := Lib.hid (HB11.out.trans (hb.mono HB11.out.size))
            obtain ⟨ad, hVa, q1, q2⟩ := KLF.out _ HB12.out
            subst hVa
            clear hb
            go_wp2_with fail
            refine (KO.out _ HB12.out).mono ?_
            rintro e w13 ⟨rfl, hb⟩
            have HOF : Hid (offOf a p = ((textL (a.take i)).length : Int)) := by
              show _ = _
              unfold offOf textOf
              rw [if_pos WR.out.ready, strOf_size, WR.out.at_]
            rw [HOF.out, WR.out.ready, show errV 0 = .nilIface from rfl]
            have HB13 := Lib.hid (HB12.out.trans (hb.mono HB12.out.size))
            obtain ⟨ad', hVa, r1, r2⟩ := KLF.out _ HB13.out
            obtain rfl : ad = ad' := by injection hVa
            clear hb q1 q2 hVa
            have HBf : Hid (Below w.heap.size w w13) := HB3.out.trans (HB13.out.mono HB3.out.size)
            cases hst : (a[i]'hi).struck with
            | true =>
              rw [hst] at r2
              go_wp2_with fail
              go_ret
              exact ⟨rfl, HBf.out⟩
            | false =>
              rw [hst] at r2
              have hseen : seenB (a[i]'hi) = true := by
                have h1 := WR.out.letter
                have h2 := WR.out.range
                unfold seenB
                rw [hst, h1]
                simp
                omega
              have HNT := Lib.hid (nth_at a i 0 hi hseen)
              have HTA := text_at hi hseen
              rw [WR.out.letter] at HTA
              have KA := Lib.hid (at_any w13 (some ad) ca a ((textL (a.take i)).length : Int) (HAW.out _ HB13.out) HAS.out (by omega) (by have := textL_le (a.take i); rw [List.length_take] at this; omega))
              have HAE : Hid (atErr a ((textL (a.take i)).length : Int) = 0) := by
                show _ = _
                unfold atErr
                rw [if_neg (fun x => x WR.out.err), if_neg]
                rw [HNT.out]; omega
              have hlt := (List.getElem?_eq_some_iff.1 HTA).1
              have hkt : (textL (a.take i)).length < (textOf a).size := by unfold textOf; rw [strOf_size]; exact hlt
              have hbyte : (((textOf a)[(textL (a.take i)).length]'hkt).toNat : Int) = n := by
                have h1 := (List.getElem?_eq_some_iff.1 HTA).2
                have h2 : (textOf a)[(textL (a.take i)).length]'hkt = (textL a)[(textL (a.take i)).length]'hlt := rfl
                rw [h2, h1]
                exact u8_val (by have := WR.out.range; omega) (by have := WR.out.range; omega)
              have hkm : (textL (a.take i)).length ≤ 300 := by have := textL_le (a.take i); rw [List.length_take] at this; omega
              generalize textOf a = tx at *
              generalize (textL (a.take i)).length = k at *
              have g2 : ((((tx[k]'hkt).toNat : Nat) : Int) == n) = true := by rw [beq_iff_eq]; exact hbyte
              have g4 : (wrap64 (((tx[k]'hkt).toNat : Nat) : Int) == n) = true := by
                have h1 := WR.out.range
                rw [show wrap64 (((tx[k]'hkt).toNat : Nat) : Int) = (((tx[k]'hkt).toNat : Nat) : Int) from by unfold wrap64; omega]
                exact g2
              have g3 : ((i : Int) == (i : Int)) = true := by simp
              have k0 : (0 : Int) ≤ (k : Int) := by omega
              have k1 : (k : Int) < (tx.size : Int) := by omega
              clear HTA hseen hlt hbyte
              go_wp2_with fail
              refine KA.out.mono ?_
              rintro e w14 ⟨rfl, hb⟩
              rw [if_pos HAE.out, HAE.out, HNT.out, Nat.zero_add, show errV 0 = .nilIface from rfl]
              have HBg : Hid (Below w.heap.size w w14) := HBf.out.trans (hb.mono HBf.out.size)
              clear hb
              go_wp2_with fail
              go_ret
              exact ⟨by first | rfl | rw [g4], HBg.out⟩
          · have HV := Lib.hid (errV_ne z1)
            clear z1
            rw [HV.out]
            go_wp2_with fail
            go_ret
            exact ⟨rfl, HBw.out⟩
set_option maxRecDepth 100000 in
theorem lifted (os : Os) (started : os.Started) (H : Type) (enc : TypeId × Value → H) :
    ReturnsInHanded {} Try.checked os 3 .any (Rows.bookEitherSpec.pre6 enc Try.prog Try.f3 Rows.bookEitherRow.domain false) (Rows.bookEitherSpec.post enc Try.prog Try.f3 false true false false) := by
  refine returnsInHanded_of_change (C := Try.checked) Try.own started (by kernel_rfl) Try.func3
    (ChangeSpec.witness6 (enc := enc) (C := Try.checked) false ⟨#[], #[.slice none 0 0, .string ⟨#[]⟩, .string ⟨#[]⟩, .int .i64 0, .int .i64 0], []⟩ 8 (by kernel_rfl) (by kernel_rfl) (by kernel_rfl) (by kernel_rfl)) ?_
  intro W base args ds gs before hval0 hW _ _
  have hval : ∀ (j : Nat) t v, Try.f3.params[j]? = some t → args[j]? = some v → Value.okWide Try.prog W .any base t v := hval0
  obtain ⟨p, q, hA0, _⟩ := id hW
  have hA : DataW.TrodAll enc Try.prog W 0 (fun _ => true) true Try.f3.params.toList args.toList ds p := hA0
  rw [Try.params3] at hA hval
  obtain ⟨v0, v1, v2, v3, v4, d0, d1, d2, d3, d4, p0, p1, p2, p3, p4, rfl, rfl, rfl, h0, h1, h2, h3, h4⟩ := trodAll_five hA
  obtain ⟨A0, c0, l0, rfl, r0, g0, lc0, cm0⟩ := arg_leafs (hval 0 22 v0 rfl rfl) h0
  obtain ⟨a1, rfl, rfl, rfl, wa1⟩ := Go.ChangeMaps.open_string Try.underlying9 (hval 1 9 v1 rfl rfl) h1
  obtain ⟨a2, rfl, rfl, rfl, wa2⟩ := Go.ChangeMaps.open_string Try.underlying9 (hval 2 9 v2 rfl rfl) h2
  obtain ⟨a3, rfl, rfl, rfl, wa3⟩ := open_int Try.underlying3 (hval 3 3 v3 rfl rfl) h3
  obtain ⟨a4, rfl, rfl, rfl, wa4⟩ := open_int Try.underlying3 (hval 4 3 v4 rfl rfl) h4
  refine (walk W A0 c0 l0 a1 a2 a3 a4 r0 (fun x hx => by have := (g0 x hx).1; unfold maxLen at this; omega) lc0 (by unfold maxLen at cm0; omega) (by unfold maxLen at wa1; exact wa1) (by unfold maxLen at wa2; exact wa2)).mono fun e W' ⟨he, hb⟩ => ⟨_, he, ?_⟩
  exact law_post Try.laidOut (tb := 4) (by kernel_rfl) Try.underlying4 (by rw [Try.params3]; simp only [List.mem_cons, List.not_mem_nil, or_false]; rintro t (rfl | rfl | rfl | rfl | rfl) <;> exact ⟨by kernel_rfl, of_decide_eq_true (by kernel_rfl)⟩) rfl rfl hW hb

theorem holds : Rows.BookEitherSaid :=
  OpenClaim.holds_of_wide 3 Try.f3 rfl rfl rfl rfl rfl rfl rfl ⟨rfl, rfl, rfl, rfl, rfl⟩ rfl rfl rfl rfl rfl (by kernel_rfl) Try.func3 (by kernel_rfl)
    (of_decide_eq_true (by kernel_rfl)) (by unfold Func.isWrapper; first | (rw [if_pos (by decide +kernel)]; kernel_rfl) | (rw [if_neg (by decide +kernel)]; exact ⟨rfl, rfl⟩))
    (fun os started H enc _ => lifted os started H enc)
#print axioms holds
end lawBookEither
end Go.Proofs.Ytikbcpljhjfoiaa

/- slices.DeleteFunc of texts by a closure that asks for one text. Conditions: few texts. -/
import Derived.Test.YtgjhkblnohcppaaDoorClear
import Derived.Test.YtgjhkblnohcppaaDoorSame0
import Derived.Test.YtgjhkblnohcppaaDoorStrs
namespace Go.Proofs.YtgjhkblnohcppaaDoor
open Go.RowKit
set_option linter.unusedVariables false
namespace StrDel
def isB (p q : ByteArray) : Bool := q.toList == p.toList
def keepB (p q : ByteArray) : Bool := !isB p q
/-- What the closure has caught: a box that holds p. -/
structure Env (w : World) (B : Nat) (p : ByteArray) (b : Nat) : Prop where
  lt : b < B
  cell : w.cell? ⟨b, 0, none⟩ = some (.string p)
theorem Env.below {w w' : World} {B : Nat} {p : ByteArray} {b : Nat} (h : Env w B p b) (hb : Below B w w') : Env w' B p b := ⟨h.lt, (hb.cell h.lt).trans h.cell⟩
theorem Env.only {w w' : World} {B : Nat} {p : ByteArray} {b : Nat} {S : List Nat} (h : Env w B p b) (hB : B ≤ w.heap.size) (ho : Only S w w') (hs : b ∉ S) : Env w' B p b := ⟨h.lt, (ho.cell (by have := h.lt; show b < _; omega) hs).trans h.cell⟩
set_option maxRecDepth 100000 in
theorem fn_any (w : World) (B : Nat) (p : ByteArray) (b : Nat) (q : ByteArray) (h : Env w B p b) :
    Calls Tryd.prog 102 #[.string q, .pointer (some ⟨b, 0, none⟩)] w (fun e w' => e = .returned (.bool (isB p q)) ∧ w' = w) := by
  have c0 := h.cell
  clear h
  go_enter Tryd.func102, Tryd.ntmps102
  go_wp2_with fail
  go_ret
  exact ⟨rfl, rfl⟩
def FirstAt (l : List ByteArray) (p : ByteArray) (r : Int) : Prop := (r = -1 ∧ ∀ x ∈ l, isB p x = false) ∨ ∃ k, ∃ hk : k < l.length, r = (k : Int) ∧ isB p l[k] = true ∧ ∀ j (hj : j < l.length), j < k → isB p l[j] = false
def FirstLoop (w : World) (l : List ByteArray) (p : ByteArray) (i : Value) (wr : World) : Prop := ∃ k : Nat, k ≤ l.length ∧ i = .int .i64 k ∧ wr = w ∧ Hid (∀ j (hj : j < l.length), j < k → isB p l[j] = false)
set_option maxRecDepth 100000 in
set_option maxHeartbeats 2000000 in
theorem first_any (w : World) (B : Nat) (p : ByteArray) (b : Nat) (h : Env w B p b) (A : Option Addr) (c : Nat) (l : List ByteArray) (hr : Reads w w.heap.size 1 A l.length (strs l)) (hn : l.length ≤ 1000000) :
    Calls Tryd.prog 120 #[.slice A l.length c, .func (Fn.func 102) #[] #[.pointer (some ⟨b, 0, none⟩)]] w (fun e w' => ∃ r, e = .returned (.int .i64 r) ∧ FirstAt l p r ∧ w' = w) := by
  have HF := Lib.hid (fun q => fn_any w B p b q h)
  have HR := Lib.hid hr
  clear h hr
  go_enter Tryd.func120, Tryd.ntmps120
  go_wp2_with fail
  go_loopw [8] (fun i wr => FirstLoop w l p i wr) (fun i _ => l.length - (intOf i).toNat)
  case atStart => exact ⟨0, by omega, rfl, rfl, fun j hj h => by omega⟩
  case round =>
    obtain ⟨k, hk, rfl, rfl, HN⟩ := hrel
    have hk0 : (0 : Int) ≤ (k : Int) := by omega
    by_cases hkn : k < l.length
    · obtain ⟨ad, rfl, hb, c0⟩ := HR.out.text hkn
      have hlt : (k : Int) < (l.length : Int) := by omega
      have HX : Hid (isB p l[k] = false → ∀ j (hj : j < l.length), j < k + 1 → isB p l[j] = false) := fun hne j hj hjk => by
        rcases Nat.eq_or_lt_of_le (Nat.le_of_lt_succ hjk) with h | h
        · subst h; exact hne
        · exact HN.out j hj h
      have HY : Hid (isB p l[k] = true → FirstAt l p k) := fun he => .inr ⟨k, hkn, rfl, he, HN.out⟩
      generalize l[k] = x at c0 HX HY
      have HF1 := Lib.hid (HF.out x)
      cases hj : isB p x with
      | true =>
        have HT := Lib.hid (HY.out hj)
        rw [hj] at HF1
        clear hj
        go_wp2_with fail
        refine HF1.out.mono ?_
        rintro e w1 ⟨rfl, rfl⟩
        go_wp2_with fail
        go_ret
        exact ⟨(k : Int), rfl, HT.out, rfl⟩
      | false =>
        have HT := Lib.hid (HX.out hj)
        rw [hj] at HF1
        clear hj
        go_wp2_with fail
        refine HF1.out.mono ?_
        rintro e w1 ⟨rfl, rfl⟩
        go_wp2_with fail
        go_roundw
        case rel => exact ⟨k + 1, by omega, by go_num, rfl, HT⟩
        case measure => simp [intOf]; omega
    · have hd : ¬ (k : Int) < (l.length : Int) := by omega
      have HT : Hid (FirstAt l p (-1)) := .inl ⟨rfl, fun x hx => by
        obtain ⟨j, hj, rfl⟩ := List.getElem_of_mem hx
        exact HN.out j hj (by omega)⟩
      go_wp2_with fail
      go_ret
      exact ⟨-1, rfl, HT.out, rfl⟩
def DelLoop (w : World) (B g c : Nat) (l : List ByteArray) (p : ByteArray) (i j : Value) (wr : World) : Prop :=
  ∃ (a b : Nat) (X : List ByteArray), a < b ∧ b ≤ l.length ∧ i = .int .i64 a ∧ j = .int .i64 b ∧ X.length = l.length ∧ Hid (X.take a = (l.take b).filter (keepB p)) ∧ Hid (X.drop b = l.drop b) ∧
    Hid (Own wr B 9 1 (some ⟨g, 0, none⟩) l.length c (strs X)) ∧ Hid (Only [g] w wr)
def DelPost (w : World) (B : Nat) (A : Option Addr) (l' : List ByteArray) (e : Ending) (w' : World) : Prop := ∃ A' c, e = .returned (.slice A' l'.length c) ∧ Own w' B 9 1 A' l'.length c (strs l') ∧ Only (ob A) w w' ∧ ∀ g ∈ ob A', g ∈ ob A
theorem strs_set (X : List ByteArray) (a : Nat) (q : ByteArray) : (strs X).set a (.string q) = strs (X.set a q) := by
  unfold strs
  rw [List.map_set]
theorem zero_str (w : World) : (zeroValue 9).run Tryd.prog w = .ok (.string ⟨#[]⟩) w := by kernel_rfl
set_option maxRecDepth 100000 in
set_option maxHeartbeats 4000000 in
theorem del_any (w : World) (B : Nat) (p : ByteArray) (b0 : Nat) (h : Env w w.heap.size p b0) (A : Option Addr) (c : Nat) (l : List ByteArray) (hO : Own w B 9 1 A l.length c (strs l)) (hap : ∀ g ∈ ob A, g ≠ b0) (hn : l.length ≤ 100000) :
    Calls Tryd.prog 101 #[.slice A l.length c, .func (Fn.func 102) #[] #[.pointer (some ⟨b0, 0, none⟩)]] w (DelPost w B A (l.filter (keepB p))) := by
  have HFi := Lib.hid (first_any w w.heap.size p b0 h A c l hO.reads (by omega))
  have HO := Lib.hid hO
  have HEN := Lib.hid h
  have HAP := Lib.hid hap
  have hcap := hO.cap_le
  have hcm : c ≤ 9223372036854775807 := by have := hO.cap_max; unfold maxLen at this; omega
  clear h hO hap
  go_enter Tryd.func101, Tryd.ntmps101
  go_wp2_with fail
  refine HFi.out.mono ?_
  rintro e w1 ⟨r, rfl, hr, rfl⟩
  rcases hr with ⟨rfl, hno⟩ | ⟨k, hk, rfl, hj, hfirst⟩
  · have HJ : Hid (l.filter (keepB p) = l) := List.filter_eq_self.2 (fun x hx => by unfold keepB; rw [hno x hx]; rfl)
    clear hno
    go_wp2_with fail
    go_ret
    rw [HJ.out]
    exact ⟨A, c, rfl, HO.out, Only.refl _ _, fun g hg => hg⟩
  · obtain ⟨g, rfl, hg1, hg2⟩ := HO.out.head (by omega)
    have hgb : b0 ≠ g := fun e => HAP.out g (by simp [ob]) e.symm
    have g0 : ((k : Int) == -1) = false := by rw [beq_eq_false_iff_ne]; omega
    have HST : Hid (l.take k = (l.take (k + 1)).filter (keepB p)) := by
      show _ = _
      rw [List.take_succ_eq_append_getElem hk, List.filter_append, List.filter_eq_self.2 (fun x hx => by
        obtain ⟨j, hj, rfl⟩ := List.getElem_of_mem hx
        rw [List.length_take] at hj
        rw [List.getElem_take]
        unfold keepB
        rw [hfirst j (by omega) (by omega)]; rfl)]
      simp [keepB, hj]
    clear hj hfirst
    go_wp2_with fail
    go_loopw [5, 6] (fun i j wr => DelLoop w1 B g c l p i j wr) (fun _ j _ => l.length - (intOf j).toNat)
    case atStart => exact ⟨k, k + 1, l, by omega, by omega, rfl, by go_num, rfl, HST, rfl, HO, Only.refl _ _⟩
    case round =>
      obtain ⟨a, b, X, hab, hbl, rfl, rfl, hX, HT, HD, HOr, HL⟩ := hrel
      by_cases hbn : b < l.length
      · have hbX : b < X.length := by omega
        have haX : a < X.length := by omega
        have hlt : (b : Int) < (l.length : Int) := by omega
        have hlt' : (a : Int) < (l.length : Int) := by omega
        have b00 : (0 : Int) ≤ (b : Int) := by omega
        have a0 : (0 : Int) ≤ (a : Int) := by omega
        have hx : X[b] = l[b] := by
          have := HD.out
          rw [List.drop_eq_getElem_cons hbX, List.drop_eq_getElem_cons hbn] at this
          exact (List.cons.injEq .. ▸ this).1
        have c0 : wr.cell? ⟨g, b, none⟩ = some (.string X[b]) := by rw [HOr.out.cellAt (by omega), strs_get hbX]
        rw [hx] at c0
        have HTJ : Hid (isB p l[b] = true → (l.take (b + 1)).filter (keepB p) = (l.take b).filter (keepB p)) := fun h => by
          rw [List.take_succ_eq_append_getElem hbn, List.filter_append]; simp [keepB, h]
        have HTK : Hid (isB p l[b] = false → (l.take (b + 1)).filter (keepB p) = (l.take b).filter (keepB p) ++ [l[b]]) := fun h => by
          rw [List.take_succ_eq_append_getElem hbn, List.filter_append]; simp [keepB, h]
        have HXS : Hid ((X.set a l[b]).take (a + 1) = X.take a ++ [l[b]]) := by
          show _ = _
          rw [List.take_succ_eq_append_getElem (by rw [List.length_set]; exact haX), List.getElem_set_self, List.take_set_of_le (Nat.le_refl _)]
        have HXD : Hid ((X.set a l[b]).drop (b + 1) = l.drop (b + 1)) := by
          show _ = _
          rw [List.drop_set_of_lt (by omega)]
          have := HD.out
          rw [List.drop_eq_getElem_cons hbX, List.drop_eq_getElem_cons hbn] at this
          exact (List.cons.injEq .. ▸ this).2
        have HDD : Hid (X.drop (b + 1) = l.drop (b + 1)) := by
          show _ = _
          have := HD.out
          rw [List.drop_eq_getElem_cons hbX, List.drop_eq_getElem_cons hbn] at this
          exact (List.cons.injEq .. ▸ this).2
        have HF1 := Lib.hid (fun x => fn_any wr w1.heap.size p b0 x (HEN.out.only (Nat.le_refl _) HL.out (by simp; exact hgb)))
        clear hx
        generalize l[b] = x at *
        cases hj : isB p x with
        | true =>
          have HT2 : Hid (X.take a = (l.take (b + 1)).filter (keepB p)) := by show _ = _; rw [HTJ.out hj]; exact HT.out
          have HF2 := Lib.hid (HF1.out x)
          rw [hj] at HF2
          clear hj HTJ HTK HF1
          go_wp2_with fail
          refine HF2.out.mono ?_
          rintro e w2 ⟨rfl, rfl⟩
          go_wp2_with fail
          go_roundw
          case rel => exact ⟨a, b + 1, X, by omega, by omega, rfl, by go_num, hX, HT2, HDD, HOr, HL⟩
          case measure => simp [intOf]; omega
        | false =>
          have HT2 : Hid ((X.set a x).take (a + 1) = (l.take (b + 1)).filter (keepB p)) := by show _ = _; rw [HTK.out hj, HXS.out, HT.out]
          have HF2 := Lib.hid (HF1.out x)
          rw [hj] at HF2
          have HO1 := Lib.hid (HOr.out.storeK (k := a) (by omega) (.string x))
          rw [strs_set] at HO1
          have hv0 : ∃ v, wr.cell? ⟨g, a, none⟩ = some v := by rw [HOr.out.cellAt (by omega)]; exact ⟨_, strs_get haX⟩
          have f0 := HOr.out.frozenAt a
          have HL2 : Hid (Only [g] w1 (wr.setCell ⟨g, a, none⟩ (.string x))) := HL.out.setCell (p := ⟨g, a, none⟩) (.inl (by simp)) _
          obtain ⟨v0, v0h⟩ := hv0
          clear hj HTJ HTK HF1
          go_wp2_with fail
          refine HF2.out.mono ?_
          rintro e w2 ⟨rfl, rfl⟩
          go_wp2_with fail
          go_roundw
          case rel => exact ⟨a + 1, b + 1, X.set a x, by omega, by omega, by go_num, by go_num, by rw [List.length_set]; exact hX, HT2, HXD, HO1, HL2⟩
          case measure => simp [intOf]; omega
      · obtain rfl : b = l.length := by omega
        have hd : ¬ (l.length : Int) < (l.length : Int) := by omega
        have HJ : Hid (X.take a = l.filter (keepB p)) := by show _ = _; rw [HT.out, List.take_length]
        have HJL : Hid ((l.filter (keepB p)).length = a) := by show _ = _; rw [← HJ.out, List.length_take]; omega
        obtain ⟨w2, hcl, hO2, hL2⟩ := clear_own (P := Tryd.prog) (size := 1) (t := 31) (z := .string ⟨#[]⟩) Tryd.underlying31 zero_str rfl (by intro u hu; simp [Value.cells] at hu; rcases hu with rfl; rfl) HOr.out a (by omega)
        have hst : (strs X).take (a * 1) = strs (X.take a) := by unfold strs; rw [Nat.mul_one, List.map_take]
        rw [hst, HJ.out] at hO2
        have HO2 := Lib.hid hO2
        have HL2 : Hid (Only [g] w1 w2) := HL.out.trans hL2
        have q0 : (0 : Int) ≤ (a : Int) := by omega
        have q1 : (a : Int) ≤ (l.length : Int) := by omega
        have q2 : (a : Int) ≤ (c : Int) := by omega
        have q3 : ¬ (c = a) := by omega
        rw [Nat.mul_one] at hcl
        clear hO2 hL2 hst
        go_wp2_with fail
        go_ret
        refine ⟨some ⟨g, 0, none⟩, c, by rw [HJL.out]; rfl, by rw [HJL.out]; exact HO2.out, by simpa [ob] using HL2.out, fun g' hg' => by simpa [ob] using hg'⟩
end StrDel
end Go.Proofs.YtgjhkblnohcppaaDoor

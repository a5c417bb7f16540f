/- leafref1.many at any text, leafref1.nth, walked. Conditions: the texts are places, or empty. -/
import Derived.Test.YtgmdnmdniidngaaDoorRefMany2
namespace Go.Proofs.YtgmdnmdniidngaaDoor
open Go.RowKit
set_option linter.unusedVariables false
theorem rmany_any (a b : ByteArray) (la : Letters a) (lb : Letters b) (sa : a.size ≤ 12) (sb : b.size ≤ 12) (n : Nat) (h1 : 1 ≤ n) (h11 : n ≤ 11) : ∀ (r : Nat) (s : ByteArray) (w : World), LowL s.toList → s.size + r = n →
    Calls Tryd.prog 44 #[.string s, .int .i64 (n : Int), .string a, .string b] w (CheckPost w (.int .i64 (rcount a b n r (numF s.toList s.size) : Int)))
  | 0, s, w, hs, hn => by
    have e : s.size = n := hn
    subst e
    exact rmany_last w a b s la lb sa sb hs h1 h11
  | r + 1, s, w, hs, hn => rmany_more w a b s la lb sa sb hs r n hn h11 (fun s' w' hs' hn' => rmany_any a b la lb sa sb n h1 h11 r s' w' hs' hn')
theorem empty_num : numF (⟨#[]⟩ : ByteArray).toList (⟨#[]⟩ : ByteArray).size = 0 := by
  show numF _ 0 = 0
  simp [numF]
/-- Where the text lies that is looked for. -/
structure NthAt (a b : ByteArray) (n X : Nat) (r v k : Nat) : Prop where
  lo : v * 26 ^ r ≤ X
  hi : X < (v + 1) * 26 ^ r
  cnt : cntN (numb a n) (hiOf b.toList n) (v * 26 ^ r) + k = cntN (numb a n) (hiOf b.toList n) X
def RNthLoop (w : World) (a b : ByteArray) (n X : Nat) (v0 v4 : Value) (wr : World) : Prop :=
  ∃ (z : ByteArray) (r k : Nat), z.size + r = n ∧ v0 = .string z ∧ v4 = .int .i64 (k : Int) ∧ k ≤ 3670344486987776 ∧ Hid (LowL z.toList) ∧ Hid (NthAt a b n X r (numF z.toList z.size) k) ∧ Hid (Below w.heap.size w wr)
structure InAt (a b : ByteArray) (n X : Nat) (r v j k : Nat) : Prop where
  lo : (26 * v + j) * 26 ^ r ≤ X
  hi : X < (26 * v + 26) * 26 ^ r
  cnt : cntN (numb a n) (hiOf b.toList n) ((26 * v + j) * 26 ^ r) + k = cntN (numb a n) (hiOf b.toList n) X
def InLoop (w : World) (a b : ByteArray) (n X : Nat) (z : ByteArray) (r v : Nat) (v0 v4 v11 : Value) (wr : World) : Prop :=
  ∃ (j k : Nat), j ≤ 26 ∧ v0 = .string z ∧ v4 = .int .i64 (k : Int) ∧ v11 = .int .i64 ((97 + j : Nat) : Int) ∧ k ≤ 3670344486987776 ∧ Hid (InAt a b n X r v j k) ∧ Hid (Below w.heap.size w wr)
section
variable {a b : ByteArray} {n X r v j k : Nat}
theorem NthAt.into (h : NthAt a b n X (r + 1) v k) : InAt a b n X r v 0 k := by
  obtain ⟨h1, h2, h3⟩ := h
  rw [(span_eq r v).1] at h1 h3
  rw [(span_eq r v).2] at h2
  exact ⟨h1, h2, h3⟩
theorem InAt.less (h : InAt a b n X r v j k) (hj : j ≤ 26) : j < 26 := by
  rcases Nat.lt_or_eq_of_le hj with h1 | h1
  · exact h1
  · subst h1; have := h.lo; have := h.hi; omega
theorem InAt.take (h : InAt a b n X r v j k) (hk : k < rcount a b n r (26 * v + j)) : NthAt a b n X r (26 * v + j) k := by
  refine ⟨h.lo, ?_, h.cnt⟩
  have h1 := rcount_le (a := a) (b := b) (n := n) r (26 * v + j)
  rcases Nat.lt_or_ge X ((26 * v + j + 1) * 26 ^ r) with h2 | h2
  · exact h2
  · have := cnt_mono (low := numb a n) (hi := hiOf b.toList n) h2
    have := h.cnt
    omega
theorem InAt.next (h : InAt a b n X r v j k) (hX : okN (numb a n) (hiOf b.toList n) X = true) (hk : ¬ k < rcount a b n r (26 * v + j)) : InAt a b n X r v (j + 1) (k - rcount a b n r (26 * v + j)) := by
  have h1 := rcount_le (a := a) (b := b) (n := n) r (26 * v + j)
  have h3 := h.cnt
  refine ⟨?_, h.hi, ?_⟩
  · rcases Nat.lt_or_ge X ((26 * v + (j + 1)) * 26 ^ r) with h2 | h2
    · exfalso
      have h4 := cnt_mono (low := numb a n) (hi := hiOf b.toList n) (show X + 1 ≤ (26 * v + j + 1) * 26 ^ r from h2)
      rw [cntN, hX] at h4
      simp at h4
      omega
    · exact h2
  · rw [show 26 * v + (j + 1) = 26 * v + j + 1 from rfl]; omega
theorem NthAt.done {z : ByteArray} (h : NthAt a b n X 0 (numF z.toList z.size) k) (hz : z.size = n) (hl : LowL z.toList) (hX : X < 26 ^ n) : z.toList = lets X n := by
  have h1 := h.lo
  have h2 := h.hi
  simp only [Nat.pow_zero, Nat.mul_one] at h1 h2
  have e : numF z.toList n = X := by rw [← hz]; omega
  have e2 := lets_num hX
  have hz2 : z.toList.length = n := by rw [toList_len]; exact hz
  have h3 := numF_begins hl (lets_low X n) (by rw [lets_len]; omega) (by rw [lets_len]; omega)
  rw [lets_len, List.take_of_length_le (by omega)] at h3
  exact h3
end
set_option maxRecDepth 100000 in
set_option maxHeartbeats 4000000 in
theorem rnth_any (w : World) (a b : ByteArray) (la : Letters a) (lb : Letters b) (sa : a.size ≤ 12) (sb : b.size ≤ 12) (n : Nat) (h1 : 1 ≤ n) (h11 : n ≤ 11) (X k0 : Nat) (hX : okN (numb a n) (hiOf b.toList n) X = true) (hXn : X < 26 ^ n) (hk : cntN (numb a n) (hiOf b.toList n) X = k0) :
    Calls Tryd.prog 45 #[.string ⟨#[]⟩, .int .i64 (n : Int), .string a, .string b, .int .i64 (k0 : Int)] w (CheckPost w (.string (strOf (lets X n)))) := by
  have HM := Lib.hid (fun r s W hs hn => rmany_any a b la lb sa sb n h1 h11 r s W hs hn)
  have hk0 : k0 ≤ 3670344486987776 := by
    have := cnt_le (numb a n) (hiOf b.toList n) X
    have := pow_le n h11
    omega
  have HXO := Lib.hid hX
  have HXN := Lib.hid hXn
  have A0 : Hid (NthAt a b n X n 0 k0) := by
    refine ⟨by omega, by omega, ?_⟩
    rw [Nat.zero_mul, hk]; simp [cntN]
  clear hX hXn hk la lb sa sb
  go_enter Tryd.func45, Tryd.ntmps45
  go_wp2_with fail
  go_loopw [0, 4] (fun v0 v4 wr => RNthLoop w a b n X v0 v4 wr) (fun v0 _ _ => match v0 with | .string x => 11 - x.size | _ => 0)
  case atStart => exact ⟨⟨#[]⟩, n, k0, (by show 0 + n = n; omega), rfl, rfl, hk0, (by intro c hc; simp [ByteArray.toList_eq] at hc), (by rw [empty_num]; exact A0), Below.refl _ _⟩
  case round =>
    obtain ⟨z, r, k, hz, rfl, rfl, hkk, HLZ, HAT, HBr⟩ := hrel
    by_cases hzn : z.size < n
    · obtain ⟨r, rfl⟩ : ∃ q, r = q + 1 := ⟨r - 1, by omega⟩
      have k1 : (z.size : Int) < (n : Int) := by omega
      have HZ := Lib.hid hz
      obtain ⟨v, hv⟩ : ∃ v, numF z.toList z.size = v := ⟨_, rfl⟩
      rw [hv] at HAT
      have HV := Lib.hid hv
      have HI := Lib.hid HAT.out.into
      have HVB : Hid ((26 * v + 26) * 26 ^ r ≤ 3670344486987776) := by
        have e1 := (span_eq r v).2
        have e2 : v < 26 ^ z.size := by
          have := numF_lt HLZ.out z.toList.length
          rw [toList_len, hv] at this
          exact this
        have e3 := Nat.mul_le_mul_right (26 ^ (r + 1)) (show v + 1 ≤ 26 ^ z.size from e2)
        rw [← Nat.pow_add, hz] at e3
        have := pow_le n h11
        show _ ≤ _
        omega
      clear hz hv HAT
      go_wp2_with fail
      go_loopw [0, 4, 11] (fun v0 v4 v11 wr => InLoop w a b n X z r v v0 v4 v11 wr) (fun _ _ v11 _ => 123 - (intOf v11).toNat)
      case atStart => exact ⟨0, k, by omega, rfl, rfl, rfl, hkk, HI, HBr⟩
      case round =>
        clear HI HBr hkk
        obtain ⟨j, k, hj, rfl, rfl, rfl, hkk, HI, HBr⟩ := hrel
        have hj26 := HI.out.less hj
        have k2 : ((97 + j : Nat) : Int) ≤ 122 := by omega
        obtain ⟨C, w3, hcv, hR3, hB3⟩ := conv_row wr z (by omega)
        have HR3 := Lib.hid hR3
        have HB3 := Lib.hid hB3
        have qu : IntKind.u8.wrap ((97 + j : Nat) : Int) = ((97 + j : Nat) : Int) := IntWalk.u8_in _ (by omega)
        have qu2 : IntKind.u8.wrap (97 + (j : Int)) = ((97 + j : Nat) : Int) := by rw [IntWalk.u8_in _ (by omega)]; omega
        have q2 : IntKind.i64.wrap (((97 + j : Nat) : Int) + 1) = ((97 + (j + 1) : Nat) : Int) := by rw [IntWalk.i64_in _ (by omega)]; omega
        clear hR3 hB3
        go_wp2_with (at_builtin; go_loud (refine wpList_bytes (.tmp 24) (.tmp 27) rfl rfl rfl rfl (HR3.out.below ((Below.refl _ _).alloc (Nat.le_refl _) _)) (by have := HB3.out.size; simp; omega) (reads_byte w3 ((97 + j : Nat) : Int) (by omega) (by omega) _ rfl) (by decide) (by omega) ?_; intro g' c' w4 HR4 HO4 HG4; have htx := HR4.text; have HR4' := Lib.hid HR4; have HO4' := Lib.hid HO4; clear HR4 HO4 HG4))
        have hlow : LowL (strOf (z.toList ++ [u8 ((97 + j : Nat) : Int)])).toList := by
          rw [strOf_tl]
          intro x hx
          rcases List.mem_append.1 hx with hx | hx
          · exact HLZ.out x hx
          · rw [List.mem_singleton.1 hx]
            have := u8_val (n := ((97 + j : Nat) : Int)) (by omega) (by omega)
            omega
        have hsz : (strOf (z.toList ++ [u8 ((97 + j : Nat) : Int)])).size = z.size + 1 := by rw [strOf_size]; simp [toList_len]
        have hnum : numF (strOf (z.toList ++ [u8 ((97 + j : Nat) : Int)])).toList (strOf (z.toList ++ [u8 ((97 + j : Nat) : Int)])).size = 26 * v + j := by
          rw [strOf_tl, strOf_size, snoc_num, ← HV.out, toList_len]
          have := u8_val (n := ((97 + j : Nat) : Int)) (by omega) (by omega)
          omega
        have HNUM := Lib.hid hnum
        have HLOW := Lib.hid hlow
        have HSZ := Lib.hid hsz
        have HCALL := HM.out r (strOf (z.toList ++ [u8 ((97 + j : Nat) : Int)])) w4 hlow (by rw [hsz]; have := HZ.out; omega)
        rw [hnum] at HCALL
        clear hlow hsz hnum
        refine (show Calls Tryd.prog 44 _ w4 _ from HCALL).mono ?_
        rintro e w5 ⟨rfl, hb5⟩
        clear HCALL htx
        have hR : rcount a b n r (26 * v + j) ≤ 3670344486987776 := by
          have hx1 := cnt_le (numb a n) (hiOf b.toList n) ((26 * v + 26) * 26 ^ r)
          have hx2 := cnt_mono (low := numb a n) (hi := hiOf b.toList n) (show (26 * v + j + 1) * 26 ^ r ≤ (26 * v + 26) * 26 ^ r from Nat.mul_le_mul_right _ (by omega))
          have hx3 := rcount_le (a := a) (b := b) (n := n) r (26 * v + j)
          have hx4 := HVB.out
          omega
        have HTK := Lib.hid (fun hk => HI.out.take (j := j) (k := k) hk)
        have HNX := Lib.hid (fun hk => HI.out.next (j := j) (k := k) HXO.out hk)
        have htx := (HR4'.out.below hb5).text
        generalize strOf (z.toList ++ [u8 ((97 + j : Nat) : Int)]) = z2 at *
        have HBa := (HBr.out.trans (HB3.out.mono HBr.out.size)).alloc (Nat.le_trans HBr.out.size HB3.out.size) (.cells #[.int .u8 ((97 + j : Nat) : Int)] 5)
        have HB4 : Hid (Below w.heap.size w w5) := (HBa.trans (HO4'.out.below HBa.size (fun g hg => by rw [List.mem_singleton.1 hg]; exact HBr.out.size))).trans (hb5.mono (Nat.le_trans HBa.size HO4'.out.size))
        clear HBa hb5 HO4' HR4' hcv HR3 HB3
        generalize rcount a b n r (26 * v + j) = R at *
        by_cases hkr : k < R
        · have k3 : (k : Int) < (R : Int) := by omega
          have HN2 := Lib.hid (HTK.out hkr)
          clear HTK HNX
          go_wp2_with fail
          go_roundw
          case rel => exact ⟨z2, r, k, (by have := HSZ.out; have := HZ.out; omega), rfl, rfl, hkk, HLOW, (by rw [HNUM.out]; exact HN2), HB4⟩
          case measure =>
            show 11 - z2.size < 11 - z.size
            have := HSZ.out; omega
        · have k3 : ¬ (k : Int) < (R : Int) := by omega
          have q3 : IntKind.i64.wrap ((k : Int) - (R : Int)) = ((k - R : Nat) : Int) := by rw [IntWalk.i64_in _ (by omega)]; omega
          have HN2 := Lib.hid (HNX.out hkr)
          clear HTK HNX
          go_wp2_with fail
          go_roundw
          case rel => exact ⟨j + 1, k - R, by omega, rfl, by go_num, by go_num, by omega, HN2, HB4⟩
          case measure => simp [intOf]; omega
    · have k1 : ¬ (z.size : Int) < (n : Int) := by omega
      have hr : r = 0 := by omega
      subst hr
      have HE := Lib.hid (HAT.out.done (by omega) HLZ.out HXN.out)
      go_wp2_with fail
      go_ret
      have : z = strOf (lets X n) := by rw [← HE.out]; simp [strOf, ByteArray.toList_eq]
      exact ⟨by rw [this]; rfl, HBr.out⟩
end Go.Proofs.YtgmdnmdniidngaaDoor

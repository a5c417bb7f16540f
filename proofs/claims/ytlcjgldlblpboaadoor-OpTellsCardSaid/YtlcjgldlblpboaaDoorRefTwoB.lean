/- leafref1.two, number, Bytes, walked: the bytes of an op without fault. Conditions: stated. -/
import Derived.BigQuiet
import Derived.Test.YtlcjgldlblpboaaDoorBRow
import Derived.Test.YtlcjgldlblpboaaDoorPackLaw
import Derived.Test.YtlcjgldlblpboaaDoorRefOp
namespace Go.Proofs.YtlcjgldlblpboaaDoor
open Go.RowKit
set_option linter.unusedVariables false
def RTwoPost (w : World) (B : Nat) (V : Option Addr) (n : Nat) (l : List UInt8) (k : Nat) (e : Ending) (w' : World) : Prop :=
  ∃ V' cv', e = .returned (.slice V' (n + 1 + 1) cv') ∧ Own w' B 5 1 V' (n + 1 + 1) cv' (bs (l ++ twoB k)) ∧ Only (ob V) w w'
set_option maxRecDepth 100000 in
set_option maxHeartbeats 2000000 in
theorem r2_any (w : World) (B : Nat) (hB : B ≤ w.heap.size) (V : Option Addr) (n cv : Nat) (l : List UInt8) (h : Own w B 5 1 V n cv (bs l)) (k : Nat) (hk : k ≤ 65535) (hn : n ≤ 100000) :
    Calls Tryd.prog 26 #[.slice V n cv, .int .i64 (k : Nat)] w (RTwoPost w B V n l k) := by
  have HO := Lib.hid h
  have a0 : (0 : Int) ≤ (k : Int) / 256 := by omega
  have a1 : (k : Int) / 256 ≤ 255 := by omega
  have a2 : (0 : Int) ≤ (k : Int) % 256 := by omega
  have a3 : (k : Int) % 256 ≤ 255 := by omega
  have E1 := u8_val a0 a1
  have E2 := u8_val a2 a3
  have R1 := Lib.hid (fun W : World => reads_new W [u8 ((k : Int) / 256)] (by simp) #[.int .u8 ((k : Int) / 256)] (by simp [bs, E1]))
  have R2 := Lib.hid (fun W : World => reads_new W [u8 ((k : Int) % 256)] (by simp) #[.int .u8 ((k : Int) % 256)] (by simp [bs, E2]))
  have hF1 : Fits (n + 1) 1 := Fits.of_small (by omega) (by decide)
  have hF2 : Fits (n + 1 + 1) 1 := Fits.of_small (by omega) (by decide)
  have HL0 := Lib.hid (fun i hi => (h.lt i hi).1)
  have k0 : (0 : Int) ≤ (k : Int) := by omega
  have k1 : (k : Int) ≤ 65535 := by omega
  have HBB := Lib.hid hB
  clear h E1 E2 hn hB
  go_enter Tryd.func26, Tryd.ntmps26
  go_wp2_with (at_builtin; first
    | (refine wpList_app _ (.tmp 5) (.tmp 9) rfl rfl elemB rfl rfl (HO.out.alloc _) (R1.out _) (oneCells_bs _) hF1 (by have := HBB.out; simp; omega) ?_; intro V1 cv1 w1 HO1 HL1 HX1; have HO1 := Lib.hid HO1; have HL1 := Lib.hid HL1; have HX1 := Lib.hid HX1)
    | (refine wpList_app _ (.tmp 11) (.tmp 15) rfl rfl elemB rfl rfl (HO1.out.alloc _) (R2.out _) (oneCells_bs _) hF2 (by have := HBB.out; have := HL1.out.size; simp at this ⊢; omega) ?_; intro V2 cv2 w2 HO2 HL2 HX2; have HO2 := Lib.hid HO2; have HL2 := Lib.hid HL2; clear HX2))
  go_ret
  refine ⟨V2, cv2, rfl, ?_, ?_⟩
  · have := HO2.out
    rw [bs_append, bs_append, List.append_assoc] at this
    exact this
  · have ha := (Only.refl (ob V) w).alloc (.cells #[.int .u8 ((k : Int) / 256)] 5)
    have h1 := ha.trans HL1.out
    have h2 := h1.alloc (.cells #[.int .u8 ((k : Int) % 256)] 5)
    refine h2.trans_new HL2.out (fun i hi => ?_)
    rcases HX1.out i hi with h | h
    · exact .inl h
    · exact .inr (by rw [h]; simp)
theorem two_wrap (c d : UInt8) : wrap64 (wrap64 (wrap64 (c.toNat : Int) * 256) + wrap64 (d.toNat : Int)) = ((c.toNat * 256 + d.toNat : Nat) : Int) := by
  have q1 := UInt8.toNat_lt c
  have q2 := UInt8.toNat_lt d
  have e1 : wrap64 (c.toNat : Int) = c.toNat := by unfold wrap64; omega
  have e2 : wrap64 (d.toNat : Int) = d.toNat := by unfold wrap64; omega
  rw [e1, e2]
  have e3 : wrap64 ((c.toNat : Int) * 256) = (c.toNat : Int) * 256 := by unfold wrap64; omega
  rw [e3]
  unfold wrap64
  omega
set_option maxRecDepth 100000 in
theorem number_any (w : World) (s : ByteArray) (i : Nat) (c d : UInt8) (hi : i + 1 < s.size) (hm : s.size ≤ 9223372036854775807) (hc : s[i] = c) (hd : s[i + 1] = d) :
    Calls Tryd.prog 28 #[.string s, .int .i64 (i : Nat)] w (CheckPost w (.int .i64 ((c.toNat * 256 + d.toNat : Nat) : Int))) := by
  have i0 : (0 : Int) ≤ (i : Int) := by omega
  have i1 : i < s.size := by omega
  have i2 : (i : Int) < (s.size : Int) := by omega
  have i3 : (0 : Int) ≤ (i : Int) + 1 := by omega
  have i4 : (i : Int) + 1 < (s.size : Int) := by omega
  have i5 : ((i : Int) + 1).toNat = i + 1 := by omega
  have i6 : (i : Int).toNat = i := by omega
  have i7 : (i : Int) + 1 ≤ 9223372036854775807 := by omega
  have q1 := UInt8.toNat_lt c
  have q2 := UInt8.toNat_lt d
  have HC := Lib.hid hc
  have HD := Lib.hid hd
  have w1 : IntKind.i64.wrap ((i : Int) + 1) = (i : Int) + 1 := IntWalk.i64_in _ (by omega)
  clear hc hd hm
  go_enter Tryd.func28, Tryd.ntmps28
  go_wp2_with fail
  go_quiet (fail)
  go_wp2_with fail
  go_ret
  refine ⟨?_, below_drewN (Below.refl _ _) _⟩
  rw [← HC.out, ← HD.out, ← two_wrap]
  rfl
end Go.Proofs.YtlcjgldlblpboaaDoor

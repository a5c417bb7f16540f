/- leafref1.Pack, walked: the bytes of ops without fault. Conditions: they are without fault, and few. -/
import Derived.Test.YtlcjgldlblpboaaDoorRefBytes
namespace Go.Proofs.YtlcjgldlblpboaaDoor
open Go.RowKit
set_option linter.unusedVariables false
theorem opsErr_at {l : List LOp} (h : opsErr l = 0) : ∀ o ∈ l, opErr o = 0 := by
  induction l with
  | nil => simp
  | cons a t ih =>
    unfold opsErr at h
    by_cases ha : opErr a = 0
    · rw [if_pos ha] at h
      intro o ho
      rcases List.mem_cons.1 ho with rfl | ho
      · exact ha
      · exact ih h o ho
    · rw [if_neg ha] at h; exact absurd h ha
set_option maxRecDepth 100000 in
set_option maxHeartbeats 4000000 in
theorem rpack_any (w : World) (A : Option Addr) (ca : Nat) (l : List OpAt) (h : Reads w w.heap.size 6 A l.length (ocells l)) (hg : ∀ y ∈ l, Reads w w.heap.size 2 y.at_ y.op.seen.length (dcells y.op.seen)) (hl : l.length ≤ 400) (he : opsErr (l.map OpAt.op) = 0) :
    Calls Tryd.prog 12 #[.slice A l.length ca] w (CheckPost w (.string (strOf (packBytes (l.map OpAt.op))))) := by
  have HR := Lib.hid h
  have HG := Lib.hid hg
  have HE := Lib.hid he
  have hea := opsErr_at he
  have HT := Lib.hid (fun (W : World) (V : Option Addr) (n cv : Nat) (l : List UInt8) (k : Nat) (hB : w.heap.size ≤ W.heap.size) (hO : Own W w.heap.size 5 1 V n cv (bs l)) (hk : k ≤ 65535) (hn : n ≤ 100000) => r2_any W w.heap.size hB V n cv l hO k hk hn)
  have HEN := Lib.hid (fun W A c o h he => rbytes_any W A c o h he)
  have HEA := Lib.hid hea
  clear h hg he hea
  go_enter Tryd.func12, Tryd.ntmps12
  go_wp2_with fail
  refine (HT.out w none 0 0 [] l.length (Nat.le_refl _) (Own.nil _ _ _ _) (by omega) (by omega)).mono ?_
  rintro e w1 ⟨V1, cv1, rfl, h1, h2⟩
  have HS0 : Hid (PackSt w (l.map OpAt.op) 0 V1 (0 + 1 + 1) cv1 w1) := by
    refine ⟨?_, h2.below (Nat.le_refl _) (by simp [ob]), rfl⟩
    rw [List.length_map]
    simpa [packBody] using h1
  clear h1 h2
  go_wp2_with fail
  go_loopw [3, 4] (fun v i wr => PackLoop w (l.map OpAt.op) i v wr) (fun v i _ => l.length - (intOf i).toNat)
  case atStart => exact ⟨0, _, _, _, Nat.zero_le _, rfl, rfl, HS0⟩
  case round =>
    obtain ⟨k, V, n, cv, hk, rfl, rfl, HM⟩ := hrel
    rw [List.length_map] at hk
    clear HS0
    by_cases hkn : k < l.length
    · obtain ⟨ad, rfl, hab, c0, c1, c2, c3, c4, c5⟩ := (HR.out.below HM.out.bel).op hkn
      have k1 : (k : Int) < (l.length : Int) := by omega
      have k0 : (0 : Int) ≤ (k : Int) := by omega
      have HGR := Lib.hid (((HG.out _ (List.getElem_mem hkn)).below HM.out.bel).more HM.out.bel.size)
      have htk : (l.map OpAt.op).take (k + 1) = (l.map OpAt.op).take k ++ [l[k].op] := by
        rw [List.take_succ_eq_append_getElem (by simpa using hkn), List.getElem_map]
      have HTK := Lib.hid htk
      have ho : opErr l[k].op = 0 := HEA.out _ (List.mem_map.2 ⟨_, List.getElem_mem hkn, rfl⟩)
      clear htk
      generalize l[k] = y at *
      obtain ⟨o, yA, yc⟩ := y
      simp only at HTK HGR c0 c1 c2 c3 c4 c5 ho
      have HOB := Lib.hid (HEN.out wr yA yc o HGR.out ho)
      have HOK : Hid (opsErr ((l.map OpAt.op).take (k + 1)) = 0) := by show _ = _; rw [HTK.out, opsErr_append HM.out.ok, if_pos ho]; rfl
      have hlen := opBytes_len ho
      have hn : n = 2 + (packBody ((l.map OpAt.op).take k)).length := by
        have h1 := HM.out.own.len
        rw [bs_len, List.length_append] at h1
        have h2 : (twoB (l.map OpAt.op).length).length = 2 := rfl
        omega
      have hpl := packBody_len HM.out.ok
      rw [List.length_take, List.length_map] at hpl
      have hn2 : n ≤ 60000 := by have : min k l.length ≤ 400 := by omega
                                 omega
      have HPO : Hid (twoB (l.map OpAt.op).length ++ packBody ((l.map OpAt.op).take (k + 1)) = (twoB (l.map OpAt.op).length ++ packBody ((l.map OpAt.op).take k)) ++ twoB (opBytes o).length ++ opBytes o) := by
        show _ = _
        rw [HTK.out]
        unfold packBody
        simp
      clear ho hn hpl HEN HEA
      unfold LOp.val at HOB
      obtain ⟨⟨d1, d2⟩, o2, o3, o4, o5⟩ := o
      simp only at HOB c0 c1 c2 c3 c4 c5 HGR
      go_wp2_with fail
      refine HOB.out.mono ?_
      generalize hbl : opBytes ⟨⟨d1, d2⟩, o2, o3, o4, o5⟩ = bl at *
      clear hbl HOB HGR HTK c0 c1 c2 c3 c4 c5
      rintro e w2 ⟨rfl, hb2⟩
      have HV2 := Lib.hid (HM.out.own.below hb2)
      have HB2 : Hid (Below w.heap.size w w2) := HM.out.bel.trans (hb2.mono HM.out.bel.size)
      have hs1 : (strOf bl).size = bl.length := strOf_sz bl
      have hs2 : (strOf bl).toList = bl := strOf_toList bl
      generalize hsb : strOf bl = sb at *
      have HSL := Lib.hid hs1
      have HSB := Lib.hid hs2
      have hsz : sb.size ≤ 139 := by omega
      clear hb2 hsb hs1 hs2
      go_wp2_with fail
      refine (HT.out w2 _ n cv _ sb.size HB2.out.size HV2.out (by omega) (by omega)).mono ?_
      rintro e w3 ⟨V3, cv3, rfl, hO3, hL3⟩
      have HV3 := Lib.hid hO3
      have HB3 : Hid (Below w.heap.size w w3) := HB2.out.trans (hL3.below HB2.out.size (fun i hi => (HV2.out.lt i hi).1))
      clear hO3 hL3 HV2 HB2
      obtain ⟨C, w4, hcv, hR4, hB4⟩ := conv_row w3 sb (by omega)
      have HV4 := Lib.hid (HV3.out.below hB4)
      have HB4 : Hid (Below w.heap.size w w4) := HB3.out.trans (hB4.mono HB3.out.size)
      have HR4 := Lib.hid hR4.reads
      have hF : Fits (n + 1 + 1 + sb.size) 1 := Fits.of_small (by omega) (by decide)
      have HS4 := Lib.hid HB4.out.size
      clear hR4 hB4 HV3 HB3
      go_wp2_with (at_builtin; go_loud (refine wpList_app _ (.tmp 24) (.tmp 26) rfl rfl elemB rfl rfl HV4.out HR4.out (oneCells_bs _) hF HS4.out ?_; intro V5 cv5 w5 HO HL HX; have HO5 := Lib.hid HO; have HB5 : Hid (Below w.heap.size w w5) := (HB4.out.trans (HL.below HB4.out.size (fun i hi => (HV4.out.lt i hi).1))); clear HO HL HX))
      go_roundw
      case rel =>
        refine ⟨k + 1, V5, n + 1 + 1 + sb.size, cv5, by simp; omega, by go_num, rfl, Lib.hid ⟨?_, HB5.out, HOK.out⟩⟩
        rw [HPO.out]
        have := HO5.out
        rw [bs_append, HSB.out, HSL.out] at this
        rw [HSL.out]
        exact this
      case measure => simp [intOf]; omega
    · have k1 : ¬ (k : Int) < (l.length : Int) := by omega
      have hk : k = l.length := by omega
      have htk : (l.map OpAt.op).take k = l.map OpAt.op := by rw [hk]; exact List.take_of_length_le (by simp)
      have hcv := conv_own HM.out.own
      rw [htk] at hcv
      clear hk htk
      go_wp2_with fail
      go_ret
      refine ⟨?_, HM.out.bel⟩
      rw [packBytes, List.length_map]
      rfl
end Go.Proofs.YtlcjgldlblpboaaDoor

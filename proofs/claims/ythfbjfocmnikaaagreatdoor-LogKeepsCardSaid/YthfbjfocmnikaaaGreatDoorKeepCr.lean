/- leaflaw3.LogKeeps, a crash: what is left is the document of as many ops as are whole. Conditions: none of our own. -/
import Derived.Test.YthfbjfocmnikaaaGreatDoorKeepCr2
namespace Go.Proofs.YthfbjfocmnikaaaGreatDoor
open Go.RowKit
set_option linter.unusedVariables false
namespace lawLogKeepsCr
def KLeft (l : List LOp) (high : Int) (w0 : World) (v i : Value) (wr : World) : Prop := ∃ k left : Nat, v = .int .i64 (left : Nat) ∧ i = .int .i64 (k : Nat) ∧ k ≤ l.length + 1 ∧ Hid (LLog.Left l high k left) ∧ wr = w0
noncomputable def crashCode : Code := ((Tryz.f3.body.bind (fromAt 42)).getD .skip)
set_option maxRecDepth 100000 in
set_option maxHeartbeats 16000000 in
theorem crash (w w0 : World) {A : Option Addr} {cA : Nat} {ys : List OpAt}
    {B1 : Option Addr} {d1 : Nat} {sy : List Int} {B2 : Option Addr} {d2 : Nat} {fl : List Int} (B3 : Option Addr) (d3 : Nat) (kp : List Int) (hkp : Reads w w.heap.size 1 B3 kp.length (ints kp)) (hkr : ∀ x ∈ kp, -9223372036854775808 ≤ x ∧ x ≤ 9223372036854775807) (hnk : kp.length ≤ 9223372036854775807)
    (B b r a n : Nat) (L : LLog) (A1 : Option Addr) (c1 : Nat) (A2 : Option Addr) (c2 : Nat) (HK : Hid (KAt w B b L L.kept n A1 c1 A2 c2 w0))
    {u4 u5 u6 u7 u8 u9 u10 u11 u12 u13 u14 u15 u21 u22 u23 u24 u25 u26 u27 u28 u29 u30 u31 u32 u33 u34 u35 u36 u37 u38 u39 u40 u41 u42 u43 u44 u45 u46 u47 u48 u49 u50 u51 u52 u53 u54 u55 u56 u57 u58 u59 u60 u61 u62 u63 u64 u65 u66 u67 u68 u69 u70 u71 u72 u73 u74 u75 u76 u77 u78 u79 u80 u81 u82 u83 u84 u85 u86 u87 u88 u89 u90 u91 u92 u93 u94 u95 u96 u97 u98 u99 u100 u101 u102 u103 u104 u105 u106 u107 u108 u109 u110 u111 u112 u113 u114 u115 u116 u117 u118 u119 u120 u121 u122 u123 u124 u125 u126 u127 u128 u129 u130 u131 u132 u133 u134 u135 u136 u137 u138 u139 u140 u141 u142 u143 u144 u145 u146 u147 u148 u149 u150 u151 u152 u153 u154 u155 u156 u157 u158 u159 u160 u161 u162 u163 u164 u165 u166 u167 u168 u169 u170 u171 u172 u173 u174 u175 u176 u177 u178 u179 u180 u181 u182 u183 u184 u185 u186 u187 u188 u189 u190 u191 u192 u193 u194 u195 u196 u197 u198 u199 u200 u201 u202 u203 u204 u205 u206 u207 u208 u209 u210 u211 u212 u213 u214 u215 u216 u217 u218 u219 u220 u221 u222 u223 u224 u225 u226 u227 u228 u229 u230 u231 u232 u233 u234 u235 u236 u237 u238 u239 u240 u241 u242 u243 u244 u245 u246 u247 u248 u249 u250 u251 u252 u253 u254 u255 u256 u257 u258 u259 u260 u261 u262 u263 u264 u265 u266 u267 u268 u269 u270 u271 u272 u273 u274 u275 u276 u277 u278 u279 u280 u281 u282 u283 u284 u285 u286 u287 u288 u289 u290 u291 u292 u293 u294 u295 u296 u297 u298 u299 u300 u301 u302 u303 u304 u305 u306 u307 u308 u309 u310 u311 u312 u313 u314 u315 u316 u317 u318 u319 u320 u321 u322 u323 u324 u325 u326 u327 u328 u329 u330 u331 u332 u333 u334 u335 u336 u337 : Value} (Q : Exit → Act → World → Prop)
    (hq : CrashQ w B b r a (.slice A ys.length cA) (.slice B1 sy.length d1) (.slice B2 fl.length d2) (.slice B3 kp.length d3) Q) :
    Code.wp Tryz.prog crashCode Q ⟨#[.slice A ys.length cA, .slice B1 sy.length d1, .slice B2 fl.length d2, .slice B3 kp.length d3, u4, u5, u6, u7, u8, u9, u10, u11, u12, u13, u14, u15, .pointer (some ⟨b, 0, none⟩), .slice A1 (n + 1) c1, .slice A2 (n + 1) c2, .int .i64 (a : Nat), .int .i64 (r : Nat), u21, u22, u23, u24, u25, u26, u27, u28, u29, u30, u31, u32, u33, u34, u35, u36, u37, u38, u39, u40, u41, u42, u43, u44, u45, u46, u47, u48, u49, u50, u51, u52, u53, u54, u55, u56, u57, u58, u59, u60, u61, u62, u63, u64, u65, u66, u67, u68, u69, u70, u71, u72, u73, u74, u75, u76, u77, u78, u79, u80, u81, u82, u83, u84, u85, u86, u87, u88, u89, u90, u91, u92, u93, u94, u95, u96, u97, u98, u99, u100, u101, u102, u103, u104, u105, u106, u107, u108, u109, u110, u111, u112, u113, u114, u115, u116, u117, u118, u119, u120, u121, u122, u123, u124, u125, u126, u127, u128, u129, u130, u131, u132, u133, u134, u135, u136, u137, u138, u139, u140, u141, u142, u143, u144, u145, u146, u147, u148, u149, u150, u151, u152, u153, u154, u155, u156, u157, u158, u159, u160, u161, u162, u163, u164, u165, u166, u167, u168, u169, u170, u171, u172, u173, u174, u175, u176, u177, u178, u179, u180, u181, u182, u183, u184, u185, u186, u187, u188, u189, u190, u191, u192, u193, u194, u195, u196, u197, u198, u199, u200, u201, u202, u203, u204, u205, u206, u207, u208, u209, u210, u211, u212, u213, u214, u215, u216, u217, u218, u219, u220, u221, u222, u223, u224, u225, u226, u227, u228, u229, u230, u231, u232, u233, u234, u235, u236, u237, u238, u239, u240, u241, u242, u243, u244, u245, u246, u247, u248, u249, u250, u251, u252, u253, u254, u255, u256, u257, u258, u259, u260, u261, u262, u263, u264, u265, u266, u267, u268, u269, u270, u271, u272, u273, u274, u275, u276, u277, u278, u279, u280, u281, u282, u283, u284, u285, u286, u287, u288, u289, u290, u291, u292, u293, u294, u295, u296, u297, u298, u299, u300, u301, u302, u303, u304, u305, u306, u307, u308, u309, u310, u311, u312, u313, u314, u315, u316, u317, u318, u319, u320, u321, u322, u323, u324, u325, u326, u327, u328, u329, u330, u331, u332, u333, u334, u335, u336, u337], []⟩ w0 := by
  have HKP := Lib.hid hkp
  have HKR := Lib.hid hkr
  have HQ := Lib.hid hq
  have r0 : (0 : Int) ≤ (r : Int) := by omega
  clear hkp hkr hq
  conv => arg 2; whnf
  go_upto_if 228 with (fail)
  go_cut [31] from 225 to 337 (fun v wx => ∃ m : Int, v = .int .i64 m ∧ (-9223372036854775808 ≤ m ∧ m ≤ 9223372036854775807) ∧ wx = w0)
  case first =>
    by_cases hf : r < kp.length
    · have k3 : (r : Int) < (kp.length : Int) := by omega
      have HX := Lib.hid (HKR.out _ (List.getElem_mem hf))
      obtain ⟨ad, hA, _, hc⟩ := (HKP.out.below HK.out.below).int hf
      subst hA
      generalize kp[r] = v at *
      clear hf
      go_wp2_with fail
      go_meet
      case rel => exact ⟨v, rfl, HX.out, rfl⟩
    · have k3 : ¬ (r : Int) < (kp.length : Int) := by omega
      clear hf
      go_wp2_with fail
      go_meet
      case rel => exact ⟨0, rfl, by decide, rfl⟩
  case rest =>
  obtain ⟨m, rfl, hm, hw⟩ := hcut
  obtain rfl := hw.symm
  clear hw
  obtain ⟨hm0, hm1⟩ := hm
  have HBY := Lib.hid HK.out.bytes
  have HSF := Lib.hid HK.out.safe
  have HCR := Lib.hid (HK.out.crash m hm0 hm1)
  have HOK := Lib.hid HK.out.ok
  have HLEN := Lib.hid HK.out.len
  have HHI := Lib.hid (HK.out.ok.high_is m)
  obtain ⟨mm, hmm⟩ : ∃ mm, mm = L.m := ⟨_, rfl⟩
  obtain ⟨ss, hss⟩ : ∃ ss, ss = L.safe := ⟨_, rfl⟩
  obtain ⟨hi, hhi⟩ : ∃ hi, hi = L.high m := ⟨_, rfl⟩
  rw [← hmm] at HBY
  rw [← hss] at HSF
  rw [← hmm, ← hss, ← hhi] at HHI
  have m1 : mm ≤ 56400 := by rw [hmm]; exact HOK.out.m_small
  have s1 : ss ≤ mm := by rw [hmm, hss]; exact HOK.out.safe
  have HH := Lib.hid hhi
  have n4 : (n : Int) ≤ 400 := by have := HLEN.out; have := HOK.out.kept_few; omega
  have n0 : (0 : Int) ≤ (n : Int) := by omega
  clear hmm hss hhi
  go_wp2_with fail
  refine HBY.out.mono ?_
  rintro e w1 ⟨rfl, hw⟩
  obtain rfl := hw.symm
  clear hw HBY
  go_wp2_with fail
  refine HSF.out.mono ?_
  rintro e w1 ⟨rfl, hw⟩
  obtain rfl := hw.symm
  clear hw HSF
  go_wp2_with fail
  refine HCR.out.mono ?_
  rintro e w1 ⟨rfl, h1⟩
  have HC := Lib.hid h1
  clear h1 HCR HK
  have mi : (mm : Int) ≤ 56400 := by omega
  have si : (ss : Int) ≤ (mm : Int) := by omega
  have si0 : (0 : Int) ≤ (ss : Int) := by omega
  obtain ⟨df, hdf⟩ : ∃ df : Nat, (df : Int) = (mm : Int) - (ss : Int) := ⟨mm - ss, by omega⟩
  have dw : IntKind.i64.wrap ((mm : Int) - (ss : Int)) = (df : Int) := by rw [IntWalk.i64_in _ (by omega)]; omega
  have HDF := Lib.hid hdf
  clear hdf
  go_upto_region 49 with (fail)
  go_cut [249] from 225 to 337 (fun v wx => v = .bool (decide (0 < m) && decide (m < (df : Int))) ∧ wx = w1)
  case first =>
    by_cases h0 : 0 < m
    · have q1 : m > 0 := h0
      by_cases h2 : m < (df : Int)
      · go_wp2_with fail
        go_meet
        case rel => exact ⟨by simp [h0, h2], rfl⟩
      · go_wp2_with fail
        go_meet
        case rel => exact ⟨by have hx : ¬ m < (df : Int) := by omega
                              simp [hx], rfl⟩
    · have q1 : ¬ m > 0 := h0
      go_wp2_with fail
      go_meet
      case rel => exact ⟨by have hx : ¬ 0 < m := by omega
                            simp [hx], rfl⟩
  case rest =>
  obtain ⟨rfl, hw⟩ := hcut
  obtain rfl := hw.symm
  clear hw
  generalize hbb : (decide (0 < m) && decide (m < (df : Int))) = bb
  have HBB := Lib.hid hbb
  clear hbb
  go_upto_if 249 with (fail)
  go_cut [34] from 225 to 337 (fun v wx => v = .int .i64 (hi : Nat) ∧ wx = w1)
  case first =>
    have hhi := HHI.out
    have hdf := HDF.out
    cases bb with
    | true =>
      have hx : 0 < m ∧ m < (df : Int) := by have := HBB.out; simpa using this
      have e1 : (hi : Int) = (ss : Int) + m := by rw [hhi, if_pos hx.1, if_pos (by omega)]
      have e2 : IntKind.i64.wrap ((ss : Int) + m) = (hi : Int) := by rw [IntWalk.i64_in _ (by omega)]; omega
      have E1 := Lib.hid e1
      have b1 : (ss : Int) + m ≤ 56400 := by omega
      have b0 : (0 : Int) ≤ m := by omega
      have b2 : m ≤ 56400 := by omega
      clear hhi hdf e1 hx
      go_wp2_with fail
      go_meet
      case rel => exact ⟨by first | rfl | (rw [E1.out]), rfl⟩
    | false =>
      have hx : ¬ (0 < m ∧ m < (df : Int)) := fun hh => by have := HBB.out; simp [hh.1, hh.2] at this
      by_cases h0 : 0 < m
      · have q1 : m > 0 := h0
        have e1 : (hi : Int) = (mm : Int) := by rw [hhi, if_pos h0, if_neg (by omega)]
        have E1 := Lib.hid e1
        clear hhi hdf e1 hx
        go_wp2_with fail
        go_meet
        case rel => exact ⟨by rw [E1.out], rfl⟩
      · have q1 : ¬ m > 0 := h0
        have e1 : (hi : Int) = (ss : Int) := by rw [hhi, if_neg h0]
        have E1 := Lib.hid e1
        clear hhi hdf e1 hx
        go_wp2_with fail
        go_meet
        case rel => exact ⟨by rw [E1.out], rfl⟩
  case rest =>
  obtain ⟨rfl, hw⟩ := hcut
  obtain rfl := hw.symm
  clear hw HHI HDF dw HBB
  obtain ⟨g2, e2, hnum⟩ : ∃ g2, A2 = some ⟨g2, 0, none⟩ ∧ ∀ k, k ≤ n → ∀ W, Below w1.heap.size w1 W → W.cell? ⟨g2, k, none⟩ = some (.int .i64 ((packBody (L.kept.take k)).length : Nat)) := by
    obtain ⟨g2, e2, _⟩ := HC.out.num (Nat.zero_le n)
    refine ⟨g2, e2, fun k hk => ?_⟩
    obtain ⟨g3, e3, h3⟩ := HC.out.num hk
    rw [e2] at e3
    injection e3 with e3
    injection e3 with e3
    subst e3
    exact h3
  subst e2
  have HNUM := Lib.hid hnum
  clear hnum
  have hi0 : (0 : Int) ≤ (hi : Int) := by omega
  obtain ⟨re, hre⟩ : ∃ re, re = L.rest m := ⟨_, rfl⟩
  have HRE := Lib.hid hre
  clear hre
  go_upto_block 4 with (fail)
  go_cut [35, 36] from 225 to 337 (fun v _ wx => v = .int .i64 (re : Nat) ∧ wx = w1)
  case first =>
    go_wp2_with fail
    go_loopw [35, 36] (fun v i wr => KLeft L.kept (hi : Nat) w1 v i wr) (fun _ i _ => (n + 1) - (intOf i).toNat)
    case atStart => exact ⟨0, 0, rfl, rfl, Nat.zero_le _, LLog.Left.zero _ (by omega), rfl⟩
    case round =>
      obtain ⟨k, left, rfl, rfl, hk, HL, hw⟩ := hrel
      obtain rfl := hw.symm
      clear hw
      have hln := HLEN.out
      by_cases hkn : k < n + 1
      · have k1 : (k : Int) < (n : Int) + 1 := by omega
        have k0 : (0 : Int) ≤ (k : Int) := by omega
        have hkl : k ≤ L.kept.length := by omega
        have HKL := Lib.hid hkl
        have c0 := HNUM.out k (by omega) w1 (Below.refl _ _)
        obtain ⟨pk, hpk⟩ : ∃ pk, pk = (packBody (L.kept.take k)).length := ⟨_, rfl⟩
        rw [← hpk] at c0
        have HPK := Lib.hid hpk
        have HKN := Lib.hid hkn
        clear hpk hkl hkn hk hln
        by_cases hm : (pk : Int) ≤ (hi : Int)
        · have HM := Lib.hid hm
          go_wp2_with fail
          go_roundw
          case rel => exact ⟨k + 1, k, rfl, by go_num, by have := HKL.out; omega, HL.out.yes HKL.out (by rw [← HPK.out]; exact HM.out), rfl⟩
          case measure => have := HKN.out; simp [intOf]; omega
        · have HM := Lib.hid hm
          go_wp2_with fail
          go_roundw
          case rel => exact ⟨k + 1, left, rfl, by go_num, by have := HKL.out; omega, HL.out.no (by rw [← HPK.out]; exact HM.out), rfl⟩
          case measure => have := HKN.out; simp [intOf]; omega
      · have k1 : ¬ (k : Int) < (n : Int) + 1 := by omega
        have hke : k = L.kept.length + 1 := by omega
        have HLE : Hid (left = re) := by show _ = _; rw [HRE.out]; subst hke; rw [HH.out] at HL; exact HOK.out.left_is HL.out
        clear hke hkn hk hln
        go_wp2_with fail
        go_meet
        case rel => exact ⟨by rw [HLE.out], rfl⟩
  case rest =>
  obtain ⟨rfl, hw⟩ := hcut
  obtain rfl := hw.symm
  clear hw
  rename_i hK
  exact hK _ _ (crash2 w w1 _ _ _ _ B b r a n L m HOK.out HLEN.out A1 c1 g2 c2 HC re HRE.out HNUM.out _ HQ.out)
end lawLogKeepsCr
end Go.Proofs.YthfbjfocmnikaaaGreatDoor

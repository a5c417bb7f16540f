/- leaflaw3.LogKeeps, its second part: any ops, syncs, stops and crashes. Conditions: none of our own. -/
import Derived.Deep.CutBlock
import Derived.Deep.RegionHeld3
import Derived.Test.YthfbjfocmnikaaaGreatDoorCard
import Derived.Test.YthfbjfocmnikaaaGreatDoorKeepCr
import Derived.Test.YthfbjfocmnikaaaGreatDoorKeepIn
import Derived.Test.YthfbjfocmnikaaaGreatDoorTold
namespace Go.Proofs.YthfbjfocmnikaaaGreatDoor
open Go.RowKit
set_option linter.unusedVariables false
namespace lawLogKeeps
/-- A frame of which some slots are known. -/
def At (ks : List (Nat × Value)) (a : Act) : Prop := a.tmps.size = 338 ∧ a.defers = [] ∧ ∀ k ∈ ks, a.tmps[k.1]? = some k.2
theorem list_open (l : List Value) {n : Nat} (h : l.length = n) : l = (List.range n).map (fun i => l.getD i undef) := by
  refine List.ext_getElem? fun i => ?_
  rcases Nat.lt_or_ge i n with hi | hi
  · rw [List.getElem?_map, List.getElem?_range hi, List.getElem?_eq_getElem (by omega)]
    simp [List.getD, List.getElem?_eq_getElem (show i < l.length by omega)]
  · rw [List.getElem?_eq_none (by omega), List.getElem?_eq_none (by simp; omega)]
set_option maxRecDepth 100000 in
theorem frame_open {a : Act} {ks : List (Nat × Value)} (h : At ks a) : ∃ f : Nat → Value, a = ⟨#[f 0, f 1, f 2, f 3, f 4, f 5, f 6, f 7, f 8, f 9, f 10, f 11, f 12, f 13, f 14, f 15, f 16, f 17, f 18, f 19, f 20, f 21, f 22, f 23, f 24, f 25, f 26, f 27, f 28, f 29, f 30, f 31, f 32, f 33, f 34, f 35, f 36, f 37, f 38, f 39, f 40, f 41, f 42, f 43, f 44, f 45, f 46, f 47, f 48, f 49, f 50, f 51, f 52, f 53, f 54, f 55, f 56, f 57, f 58, f 59, f 60, f 61, f 62, f 63, f 64, f 65, f 66, f 67, f 68, f 69, f 70, f 71, f 72, f 73, f 74, f 75, f 76, f 77, f 78, f 79, f 80, f 81, f 82, f 83, f 84, f 85, f 86, f 87, f 88, f 89, f 90, f 91, f 92, f 93, f 94, f 95, f 96, f 97, f 98, f 99, f 100, f 101, f 102, f 103, f 104, f 105, f 106, f 107, f 108, f 109, f 110, f 111, f 112, f 113, f 114, f 115, f 116, f 117, f 118, f 119, f 120, f 121, f 122, f 123, f 124, f 125, f 126, f 127, f 128, f 129, f 130, f 131, f 132, f 133, f 134, f 135, f 136, f 137, f 138, f 139, f 140, f 141, f 142, f 143, f 144, f 145, f 146, f 147, f 148, f 149, f 150, f 151, f 152, f 153, f 154, f 155, f 156, f 157, f 158, f 159, f 160, f 161, f 162, f 163, f 164, f 165, f 166, f 167, f 168, f 169, f 170, f 171, f 172, f 173, f 174, f 175, f 176, f 177, f 178, f 179, f 180, f 181, f 182, f 183, f 184, f 185, f 186, f 187, f 188, f 189, f 190, f 191, f 192, f 193, f 194, f 195, f 196, f 197, f 198, f 199, f 200, f 201, f 202, f 203, f 204, f 205, f 206, f 207, f 208, f 209, f 210, f 211, f 212, f 213, f 214, f 215, f 216, f 217, f 218, f 219, f 220, f 221, f 222, f 223, f 224, f 225, f 226, f 227, f 228, f 229, f 230, f 231, f 232, f 233, f 234, f 235, f 236, f 237, f 238, f 239, f 240, f 241, f 242, f 243, f 244, f 245, f 246, f 247, f 248, f 249, f 250, f 251, f 252, f 253, f 254, f 255, f 256, f 257, f 258, f 259, f 260, f 261, f 262, f 263, f 264, f 265, f 266, f 267, f 268, f 269, f 270, f 271, f 272, f 273, f 274, f 275, f 276, f 277, f 278, f 279, f 280, f 281, f 282, f 283, f 284, f 285, f 286, f 287, f 288, f 289, f 290, f 291, f 292, f 293, f 294, f 295, f 296, f 297, f 298, f 299, f 300, f 301, f 302, f 303, f 304, f 305, f 306, f 307, f 308, f 309, f 310, f 311, f 312, f 313, f 314, f 315, f 316, f 317, f 318, f 319, f 320, f 321, f 322, f 323, f 324, f 325, f 326, f 327, f 328, f 329, f 330, f 331, f 332, f 333, f 334, f 335, f 336, f 337], []⟩ ∧ ∀ k ∈ ks, f k.1 = k.2 := by
  obtain ⟨h1, h2, h3⟩ := h
  obtain ⟨t, d⟩ := a
  obtain ⟨l⟩ := t
  simp only at h1 h2 h3
  subst h2
  refine ⟨fun n => l.getD n undef, ?_, fun k hk => ?_⟩
  · have e := list_open l (n := 338) (by simpa using h1)
    have e2 : ∀ g : Nat → Value, (List.range 338).map g = [g 0, g 1, g 2, g 3, g 4, g 5, g 6, g 7, g 8, g 9, g 10, g 11, g 12, g 13, g 14, g 15, g 16, g 17, g 18, g 19, g 20, g 21, g 22, g 23, g 24, g 25, g 26, g 27, g 28, g 29, g 30, g 31, g 32, g 33, g 34, g 35, g 36, g 37, g 38, g 39, g 40, g 41, g 42, g 43, g 44, g 45, g 46, g 47, g 48, g 49, g 50, g 51, g 52, g 53, g 54, g 55, g 56, g 57, g 58, g 59, g 60, g 61, g 62, g 63, g 64, g 65, g 66, g 67, g 68, g 69, g 70, g 71, g 72, g 73, g 74, g 75, g 76, g 77, g 78, g 79, g 80, g 81, g 82, g 83, g 84, g 85, g 86, g 87, g 88, g 89, g 90, g 91, g 92, g 93, g 94, g 95, g 96, g 97, g 98, g 99, g 100, g 101, g 102, g 103, g 104, g 105, g 106, g 107, g 108, g 109, g 110, g 111, g 112, g 113, g 114, g 115, g 116, g 117, g 118, g 119, g 120, g 121, g 122, g 123, g 124, g 125, g 126, g 127, g 128, g 129, g 130, g 131, g 132, g 133, g 134, g 135, g 136, g 137, g 138, g 139, g 140, g 141, g 142, g 143, g 144, g 145, g 146, g 147, g 148, g 149, g 150, g 151, g 152, g 153, g 154, g 155, g 156, g 157, g 158, g 159, g 160, g 161, g 162, g 163, g 164, g 165, g 166, g 167, g 168, g 169, g 170, g 171, g 172, g 173, g 174, g 175, g 176, g 177, g 178, g 179, g 180, g 181, g 182, g 183, g 184, g 185, g 186, g 187, g 188, g 189, g 190, g 191, g 192, g 193, g 194, g 195, g 196, g 197, g 198, g 199, g 200, g 201, g 202, g 203, g 204, g 205, g 206, g 207, g 208, g 209, g 210, g 211, g 212, g 213, g 214, g 215, g 216, g 217, g 218, g 219, g 220, g 221, g 222, g 223, g 224, g 225, g 226, g 227, g 228, g 229, g 230, g 231, g 232, g 233, g 234, g 235, g 236, g 237, g 238, g 239, g 240, g 241, g 242, g 243, g 244, g 245, g 246, g 247, g 248, g 249, g 250, g 251, g 252, g 253, g 254, g 255, g 256, g 257, g 258, g 259, g 260, g 261, g 262, g 263, g 264, g 265, g 266, g 267, g 268, g 269, g 270, g 271, g 272, g 273, g 274, g 275, g 276, g 277, g 278, g 279, g 280, g 281, g 282, g 283, g 284, g 285, g 286, g 287, g 288, g 289, g 290, g 291, g 292, g 293, g 294, g 295, g 296, g 297, g 298, g 299, g 300, g 301, g 302, g 303, g 304, g 305, g 306, g 307, g 308, g 309, g 310, g 311, g 312, g 313, g 314, g 315, g 316, g 317, g 318, g 319, g 320, g 321, g 322, g 323, g 324, g 325, g 326, g 327, g 328, g 329, g 330, g 331, g 332, g 333, g 334, g 335, g 336, g 337] := fun g => rfl
    rw [e2] at e
    exact congrArg (fun x => (⟨⟨x⟩, []⟩ : Act)) e
  · have := h3 k hk
    simp at this
    simp [List.getD, this]
noncomputable def tailCode : Code := ((Tryz.f3.body.bind (fromAt 11)).getD .skip)
set_option maxRecDepth 100000 in
set_option maxHeartbeats 16000000 in
theorem tail (w w0 : World) (hglob : Glob w) (hb0 : Below w.heap.size w w0) (A : Option Addr) (cA : Nat) (ys : List OpAt) (hr : Reads w w.heap.size 6 A ys.length (ocells ys)) (hg : ∀ y ∈ ys, y.Good w) (hnl : ys.length ≤ 9223372036854775807)
    (B1 : Option Addr) (d1 : Nat) (sy : List Int) (hsy : Reads w w.heap.size 1 B1 sy.length (ints sy)) (hns : sy.length ≤ 9223372036854775807)
    (B2 : Option Addr) (d2 : Nat) (fl : List Int) (hfl : Reads w w.heap.size 1 B2 fl.length (ints fl)) (hfr : ∀ x ∈ fl, -9223372036854775808 ≤ x ∧ x ≤ 9223372036854775807) (hnf : fl.length ≤ 9223372036854775807)
    (B3 : Option Addr) (d3 : Nat) (kp : List Int) (hkp : Reads w w.heap.size 1 B3 kp.length (ints kp)) (hkr : ∀ x ∈ kp, -9223372036854775808 ≤ x ∧ x ≤ 9223372036854775807) (hnk : kp.length ≤ 9223372036854775807) {u4 u5 u6 u7 u8 u9 u10 u11 u12 u13 u14 u15 u16 u17 u18 u19 u20 u21 u22 u23 u24 u25 u26 u27 u28 u29 u30 u31 u32 u33 u34 u35 u36 u37 u38 u39 u40 u41 u42 u43 u44 u45 u46 u47 u48 u49 u50 u51 u52 u53 u54 u55 u56 u57 u58 u59 u60 u61 u62 u63 u64 u65 u66 u67 u68 u69 u70 u71 u72 u73 u74 u75 u76 u77 u78 u79 u80 u81 u82 u83 u84 u85 u86 u87 u88 u89 u90 u91 u92 u93 u94 u95 u96 u97 u98 u99 u100 u101 u102 u103 u104 u105 u106 u107 u108 u109 u110 u111 u112 u113 u114 u115 u116 u117 u118 u119 u120 u121 u122 u123 u124 u125 u126 u127 u128 u129 u130 u131 u132 u133 u134 u135 u136 u137 u138 u139 u140 u141 u142 u143 u144 u145 u146 u147 u148 u149 u150 u151 u152 u153 u154 u155 u156 u157 u158 u159 u160 u161 u162 u163 u164 u165 u166 u167 u168 u169 u170 u171 u172 u173 u174 u175 u176 u177 u178 u179 u180 u181 u182 u183 u184 u185 u186 u187 u188 u189 u190 u191 u192 u193 u194 u195 u196 u197 u198 u199 u200 u201 u202 u203 u204 u205 u206 u207 u208 u209 u210 u211 u212 u213 u214 u215 u216 u217 u218 u219 u220 u221 u222 u223 u224 u225 u226 u227 u228 u229 u230 u231 u232 u233 u234 u235 u236 u237 u238 u239 u240 u241 u242 u243 u244 u245 u246 u247 u248 u249 u250 u251 u252 u253 u254 u255 u256 u257 u258 u259 u260 u261 u262 u263 u264 u265 u266 u267 u268 u269 u270 u271 u272 u273 u274 u275 u276 u277 u278 u279 u280 u281 u282 u283 u284 u285 u286 u287 u288 u289 u290 u291 u292 u293 u294 u295 u296 u297 u298 u299 u300 u301 u302 u303 u304 u305 u306 u307 u308 u309 u310 u311 u312 u313 u314 u315 u316 u317 u318 u319 u320 u321 u322 u323 u324 u325 u326 u327 u328 u329 u330 u331 u332 u333 u334 u335 u336 u337 : Value} :
    Code.wp Tryz.prog tailCode (bodyPost Tryz.prog Tryz.f3 (CheckPost w (.bool true))) ⟨#[.slice A ys.length cA, .slice B1 sy.length d1, .slice B2 fl.length d2, .slice B3 kp.length d3, u4, u5, u6, u7, u8, u9, u10, u11, u12, u13, u14, u15, u16, u17, u18, u19, u20, u21, u22, u23, u24, u25, u26, u27, u28, u29, u30, u31, u32, u33, u34, u35, u36, u37, u38, u39, u40, u41, u42, u43, u44, u45, u46, u47, u48, u49, u50, u51, u52, u53, u54, u55, u56, u57, u58, u59, u60, u61, u62, u63, u64, u65, u66, u67, u68, u69, u70, u71, u72, u73, u74, u75, u76, u77, u78, u79, u80, u81, u82, u83, u84, u85, u86, u87, u88, u89, u90, u91, u92, u93, u94, u95, u96, u97, u98, u99, u100, u101, u102, u103, u104, u105, u106, u107, u108, u109, u110, u111, u112, u113, u114, u115, u116, u117, u118, u119, u120, u121, u122, u123, u124, u125, u126, u127, u128, u129, u130, u131, u132, u133, u134, u135, u136, u137, u138, u139, u140, u141, u142, u143, u144, u145, u146, u147, u148, u149, u150, u151, u152, u153, u154, u155, u156, u157, u158, u159, u160, u161, u162, u163, u164, u165, u166, u167, u168, u169, u170, u171, u172, u173, u174, u175, u176, u177, u178, u179, u180, u181, u182, u183, u184, u185, u186, u187, u188, u189, u190, u191, u192, u193, u194, u195, u196, u197, u198, u199, u200, u201, u202, u203, u204, u205, u206, u207, u208, u209, u210, u211, u212, u213, u214, u215, u216, u217, u218, u219, u220, u221, u222, u223, u224, u225, u226, u227, u228, u229, u230, u231, u232, u233, u234, u235, u236, u237, u238, u239, u240, u241, u242, u243, u244, u245, u246, u247, u248, u249, u250, u251, u252, u253, u254, u255, u256, u257, u258, u259, u260, u261, u262, u263, u264, u265, u266, u267, u268, u269, u270, u271, u272, u273, u274, u275, u276, u277, u278, u279, u280, u281, u282, u283, u284, u285, u286, u287, u288, u289, u290, u291, u292, u293, u294, u295, u296, u297, u298, u299, u300, u301, u302, u303, u304, u305, u306, u307, u308, u309, u310, u311, u312, u313, u314, u315, u316, u317, u318, u319, u320, u321, u322, u323, u324, u325, u326, u327, u328, u329, u330, u331, u332, u333, u334, u335, u336, u337], []⟩ w0 := by
  have HGL := Lib.hid hglob
  have HB0 := Lib.hid hb0
  have HR := Lib.hid hr
  have HG := Lib.hid hg
  have HSY := Lib.hid hsy
  have HFL := Lib.hid hfl
  have HFR := Lib.hid hfr
  have HKP := Lib.hid hkp
  have HKR := Lib.hid hkr
  have HE0 : errV 0 = .nilIface := rfl
  have HER := Lib.hid (fun W k e (hb : Below w.heap.size w W) => error_any W k e (HGL.out.below hb (Nat.le_refl _)))
  have HLN := Lib.hid (lnew_any w0)
  clear hglob hb0 hr hg hsy hfl hfr hkp hkr
  conv => arg 2; whnf
  go_wp2_with fail
  refine HLN.out.mono ?_
  intro e w1 hpost
  obtain ⟨b, rfl, hlk⟩ := LK.make HB0.out hpost
  have HLK := Lib.hid hlk
  clear hpost hlk HLN
  have HRN := Lib.hid (rnew_at w1)
  go_wp2_with fail
  refine HRN.out.mono ?_
  intro e w2 hnew
  have HM0 : Hid (KAt w w0.heap.size b LLog.new LLog.new.kept 0 (some ⟨w2.heap.size, 0, none⟩) 1 (some ⟨w2.heap.size + 1, 0, none⟩) 1 ((w2.alloc (.cells #[.pointer (some ⟨w1.heap.size + 1, 0, none⟩)] 41)).alloc (.cells #[.int .i64 0] 3))) := by
    have hz : (w2.alloc (.cells #[.pointer (some ⟨w1.heap.size + 1, 0, none⟩)] 41)).heap.size = w2.heap.size + 1 := World.size_alloc _ _
    have b2 := Blk.new (w2.alloc (.cells #[.pointer (some ⟨w1.heap.size + 1, 0, none⟩)] 41)) 3 #[.int .i64 0]
    rw [hz] at b2
    obtain ⟨K, K0, hk⟩ := KS.init (wr := (w2.alloc (.cells #[.pointer (some ⟨w1.heap.size + 1, 0, none⟩)] 41)).alloc (.cells #[.int .i64 0] 3)) HLK.out hnew (((Below.refl _ _).alloc (Nat.le_refl _) _).alloc (by simp) _) (Nat.le_refl _) (Nat.le_succ _) ((Blk.new w2 _ _).alloc _) b2
    exact ⟨rfl, K, K0, _, hk⟩
  have he := hnew.1
  subst he
  clear hnew HRN HLK
  go_wp2_with fail
  refine wp_loop (fun a' wx => ∃ (r a : Nat) (n : Nat) (L : LLog) (A1 : Option Addr) (c1 : Nat) (A2 : Option Addr) (c2 : Nat), At [(0, .slice A ys.length cA), (1, .slice B1 sy.length d1), (2, .slice B2 fl.length d2), (3, .slice B3 kp.length d3), (16, .pointer (some ⟨b, 0, none⟩)), (17, .slice A1 (n + 1) c1), (18, .slice A2 (n + 1) c2), (19, .int .i64 (a : Nat)), (20, .int .i64 (r : Nat))] a' ∧ r ≤ 4 ∧ a ≤ ys.length ∧ Hid (KAt w w0.heap.size b L L.kept n A1 c1 A2 c2 wx)) (fun a' _ => 4 - (intOf (a'.tmps.getD 20 undef)).toNat) ?startA ?roundA
  case startA => exact ⟨0, 0, 0, LLog.new, _, _, _, _, ⟨rfl, rfl, by intro kk hkk; simp only [List.mem_cons, List.not_mem_nil, or_false] at hkk; rcases hkk with rfl | rfl | rfl | rfl | rfl | rfl | rfl | rfl | rfl <;> rfl⟩, by omega, by omega, HM0⟩
  case roundA =>
    clear HM0
    rintro a' wr ⟨r, a, n, L, A1, c1, A2, c2, ha, hr4, hna, HK⟩
    obtain ⟨f, rfl, hf⟩ := frame_open ha
    have f0 := hf (0, .slice A ys.length cA) (by simp)
    have f1 := hf (1, .slice B1 sy.length d1) (by simp)
    have f2 := hf (2, .slice B2 fl.length d2) (by simp)
    have f3 := hf (3, .slice B3 kp.length d3) (by simp)
    have f16 := hf (16, .pointer (some ⟨b, 0, none⟩)) (by simp)
    have f17 := hf (17, .slice A1 (n + 1) c1) (by simp)
    have f18 := hf (18, .slice A2 (n + 1) c2) (by simp)
    have f19 := hf (19, .int .i64 (a : Nat)) (by simp)
    have f20 := hf (20, .int .i64 (r : Nat)) (by simp)
    dsimp only at f0 f1 f2 f3 f16 f17 f18 f19 f20
    rw [f0, f1, f2, f3, f16, f17, f18, f19, f20]
    clear hf ha f0 f1 f2 f3 f16 f17 f18 f19 f20
    by_cases hgo : r ≤ fl.length ∧ r < 4
    · obtain ⟨g1, g2⟩ := hgo
      have k1 : (r : Int) ≤ (fl.length : Int) := by omega
      have k2 : (r : Int) < 4 := by omega
      have k0 : (0 : Int) ≤ (r : Int) := by omega
      go_upto_if 106 with (fail)
      refine wp_cut (fun a' wx => ∃ L', At [(0, .slice A ys.length cA), (1, .slice B1 sy.length d1), (2, .slice B2 fl.length d2), (3, .slice B3 kp.length d3), (16, .pointer (some ⟨b, 0, none⟩)), (17, .slice A1 (n + 1) c1), (18, .slice A2 (n + 1) c2), (19, .int .i64 (a : Nat)), (20, .int .i64 (r : Nat))] a' ∧ Hid (KAt w w0.heap.size b L' L'.kept n A1 c1 A2 c2 wx)) ?rest1 ?first1
      case first1 =>
        intro J K' hJ hM
        by_cases hf : r < fl.length
        · have k3 : (r : Int) < (fl.length : Int) := by omega
          have HF := Lib.hid (HK.out.fail fl[r] (HFR.out _ (List.getElem_mem hf)).1 (HFR.out _ (List.getElem_mem hf)).2)
          obtain ⟨ad, hA, _, hc⟩ := (HFL.out.below HK.out.below).int hf
          subst hA
          generalize fl[r] = v at *
          clear hf
          go_wp2_with fail
          refine HF.out.mono ?_
          rintro e w3 ⟨rfl, h⟩
          have HK2 := Lib.hid h
          clear h HF HK hc
          go_wp2_with fail
          exact Met.intro (hJ _ _ ⟨_, ⟨rfl, rfl, by intro kk hkk; simp only [List.mem_cons, List.not_mem_nil, or_false] at hkk; rcases hkk with rfl | rfl | rfl | rfl | rfl | rfl | rfl | rfl | rfl <;> rfl⟩, HK2⟩)
        · have k3 : ¬ (r : Int) < (fl.length : Int) := by omega
          clear hf
          go_wp2_with fail
          exact Met.intro (hJ _ _ ⟨L, ⟨rfl, rfl, by intro kk hkk; simp only [List.mem_cons, List.not_mem_nil, or_false] at hkk; rcases hkk with rfl | rfl | rfl | rfl | rfl | rfl | rfl | rfl | rfl <;> rfl⟩, HK⟩)
      case rest1 =>
      rintro a' wr2 ⟨L', ha, HK'⟩
      clear HK
      obtain ⟨f, rfl, hf⟩ := frame_open ha
      have f0 := hf (0, .slice A ys.length cA) (by simp)
      have f1 := hf (1, .slice B1 sy.length d1) (by simp)
      have f2 := hf (2, .slice B2 fl.length d2) (by simp)
      have f3 := hf (3, .slice B3 kp.length d3) (by simp)
      have f16 := hf (16, .pointer (some ⟨b, 0, none⟩)) (by simp)
      have f17 := hf (17, .slice A1 (n + 1) c1) (by simp)
      have f18 := hf (18, .slice A2 (n + 1) c2) (by simp)
      have f19 := hf (19, .int .i64 (a : Nat)) (by simp)
      have f20 := hf (20, .int .i64 (r : Nat)) (by simp)
      dsimp only at f0 f1 f2 f3 f16 f17 f18 f19 f20
      rw [f0, f1, f2, f3, f16, f17, f18, f19, f20]
      clear hf ha f0 f1 f2 f3 f16 f17 f18 f19 f20
      go_upto_block 2 with (fail)
      refine wp_cut (fun a' wx => ∃ (a : Nat) (n : Nat) (L : LLog) (A1 : Option Addr) (c1 : Nat) (A2 : Option Addr) (c2 : Nat), At [(0, .slice A ys.length cA), (1, .slice B1 sy.length d1), (2, .slice B2 fl.length d2), (3, .slice B3 kp.length d3), (16, .pointer (some ⟨b, 0, none⟩)), (17, .slice A1 (n + 1) c1), (18, .slice A2 (n + 1) c2), (19, .int .i64 (a : Nat)), (20, .int .i64 (r : Nat))] a' ∧ a ≤ ys.length ∧ Hid (KAt w w0.heap.size b L L.kept n A1 c1 A2 c2 wx)) ?rest2 ?first2
      case first2 =>
        intro J K' hJ hM
        go_wp2_with fail
        refine wp_loop (fun a' wx => ∃ (k a : Nat) (n : Nat) (L : LLog) (A1 : Option Addr) (c1 : Nat) (A2 : Option Addr) (c2 : Nat), At [(0, .slice A ys.length cA), (1, .slice B1 sy.length d1), (2, .slice B2 fl.length d2), (3, .slice B3 kp.length d3), (16, .pointer (some ⟨b, 0, none⟩)), (17, .slice A1 (n + 1) c1), (18, .slice A2 (n + 1) c2), (19, .int .i64 (a : Nat)), (20, .int .i64 (r : Nat)), (21, .int .i64 (k : Nat))] a' ∧ k ≤ 8 ∧ a ≤ ys.length ∧ Hid (KAt w w0.heap.size b L L.kept n A1 c1 A2 c2 wx)) (fun a' _ => 8 - (intOf (a'.tmps.getD 21 undef)).toNat) ?startB ?roundB
        case startB => exact ⟨0, a, n, L', _, _, _, _, ⟨rfl, rfl, by intro kk hkk; simp only [List.mem_cons, List.not_mem_nil, or_false] at hkk; rcases hkk with rfl | rfl | rfl | rfl | rfl | rfl | rfl | rfl | rfl | rfl <;> rfl⟩, by omega, hna, HK'⟩
        case roundB =>
          clear HK' hna k1 k2 k0 g1 g2
          rintro a' wr3 ⟨k, a, n, L, A1, c1, A2, c2, ha, hk8, hna, HK⟩
          obtain ⟨f, rfl, hf⟩ := frame_open ha
          have f0 := hf (0, .slice A ys.length cA) (by simp)
          have f1 := hf (1, .slice B1 sy.length d1) (by simp)
          have f2 := hf (2, .slice B2 fl.length d2) (by simp)
          have f3 := hf (3, .slice B3 kp.length d3) (by simp)
          have f16 := hf (16, .pointer (some ⟨b, 0, none⟩)) (by simp)
          have f17 := hf (17, .slice A1 (n + 1) c1) (by simp)
          have f18 := hf (18, .slice A2 (n + 1) c2) (by simp)
          have f19 := hf (19, .int .i64 (a : Nat)) (by simp)
          have f20 := hf (20, .int .i64 (r : Nat)) (by simp)
          have f21 := hf (21, .int .i64 (k : Nat)) (by simp)
          dsimp only at f0 f1 f2 f3 f16 f17 f18 f19 f20 f21
          rw [f0, f1, f2, f3, f16, f17, f18, f19, f20, f21]
          clear hf ha f0 f1 f2 f3 f16 f17 f18 f19 f20 f21
          by_cases hgo : k < 8 ∧ a < ys.length
          · obtain ⟨g1, g2⟩ := hgo
            have k1 : (k : Int) < 8 := by omega
            have k2 : (a : Int) < (ys.length : Int) := by omega
            have k0 : (0 : Int) ≤ (a : Int) := by omega
            go_upto_region 23 with (fail)
            refine wp_cut (fun a' wx => ∃ L', At [(0, .slice A ys.length cA), (1, .slice B1 sy.length d1), (2, .slice B2 fl.length d2), (3, .slice B3 kp.length d3), (16, .pointer (some ⟨b, 0, none⟩)), (17, .slice A1 (n + 1) c1), (18, .slice A2 (n + 1) c2), (19, .int .i64 (a : Nat)), (20, .int .i64 (r : Nat)), (21, .int .i64 (k : Nat)), (145, .bool false)] a' ∧ Hid (KAt w w0.heap.size b L' L'.kept n A1 c1 A2 c2 wx)) ?rest3 ?first3
            case first3 =>
              intro J K' hJ hM
              by_cases hs1 : a < sy.length
              · have q1 : (a : Int) < (sy.length : Int) := by omega
                obtain ⟨ad, hA, _, hc⟩ := (HSY.out.below HK.out.below).int hs1
                subst hA
                generalize sy[a] = v at *
                clear hs1
                by_cases hv : v = 1
                · subst hv
                  go_wp2_with fail
                  refine HK.out.sync.mono ?_
                  rintro e w3 ⟨rfl, h1⟩
                  have h2 : KAt w w0.heap.size b L.sync L.sync.kept n A1 c1 A2 c2 w3 := by rw [LLog.sync_kept]; exact h1
                  have HK2 := Lib.hid h2
                  clear h1 hc
                  by_cases hE : L.syncE = 0
                  · have HSF := Lib.hid h2.safe
                    rw [LLog.sync_safe hE] at HSF
                    have HBY := Lib.hid h2.bytes
                    rw [hE, HE0]
                    clear h2 hE HK
                    generalize L.sync.m = mm at *
                    go_wp2_with fail
                    refine HSF.out.mono ?_
                    rintro e w4 ⟨rfl, hw⟩
                    obtain rfl := hw.symm
                    clear hw
                    go_wp2_with fail
                    refine HBY.out.mono ?_
                    rintro e w5 ⟨rfl, hw⟩
                    obtain rfl := hw.symm
                    clear hw
                    go_wp2_with fail
                    exact Met.intro (hJ _ _ ⟨_, ⟨rfl, rfl, by intro kk hkk; simp only [List.mem_cons, List.not_mem_nil, or_false] at hkk; rcases hkk with rfl | rfl | rfl | rfl | rfl | rfl | rfl | rfl | rfl | rfl | rfl <;> rfl⟩, HK2⟩)
                  · rw [errV_ne hE]
                    clear h2 hE HK
                    go_wp2_with fail
                    exact Met.intro (hJ _ _ ⟨_, ⟨rfl, rfl, by intro kk hkk; simp only [List.mem_cons, List.not_mem_nil, or_false] at hkk; rcases hkk with rfl | rfl | rfl | rfl | rfl | rfl | rfl | rfl | rfl | rfl | rfl <;> rfl⟩, HK2⟩)
                · have q2 : (v == 1) = false := by simpa using hv
                  clear hv
                  go_wp2_with fail
                  exact Met.intro (hJ _ _ ⟨L, ⟨rfl, rfl, by intro kk hkk; simp only [List.mem_cons, List.not_mem_nil, or_false] at hkk; rcases hkk with rfl | rfl | rfl | rfl | rfl | rfl | rfl | rfl | rfl | rfl | rfl <;> rfl⟩, HK⟩)
              · have q1 : ¬ (a : Int) < (sy.length : Int) := by omega
                clear hs1
                go_wp2_with fail
                exact Met.intro (hJ _ _ ⟨L, ⟨rfl, rfl, by intro kk hkk; simp only [List.mem_cons, List.not_mem_nil, or_false] at hkk; rcases hkk with rfl | rfl | rfl | rfl | rfl | rfl | rfl | rfl | rfl | rfl | rfl <;> rfl⟩, HK⟩)
            case rest3 =>
            rintro a' wr4 ⟨L', ha, HK'⟩
            clear HK
            obtain ⟨f, rfl, hf⟩ := frame_open ha
            have f0 := hf (0, .slice A ys.length cA) (by simp)
            have f1 := hf (1, .slice B1 sy.length d1) (by simp)
            have f2 := hf (2, .slice B2 fl.length d2) (by simp)
            have f3 := hf (3, .slice B3 kp.length d3) (by simp)
            have f16 := hf (16, .pointer (some ⟨b, 0, none⟩)) (by simp)
            have f17 := hf (17, .slice A1 (n + 1) c1) (by simp)
            have f18 := hf (18, .slice A2 (n + 1) c2) (by simp)
            have f19 := hf (19, .int .i64 (a : Nat)) (by simp)
            have f20 := hf (20, .int .i64 (r : Nat)) (by simp)
            have f21 := hf (21, .int .i64 (k : Nat)) (by simp)
            have f145 := hf (145, .bool false) (by simp)
            dsimp only at f0 f1 f2 f3 f16 f17 f18 f19 f20 f21 f145
            rw [f0, f1, f2, f3, f16, f17, f18, f19, f20, f21, f145]
            clear hf ha f0 f1 f2 f3 f16 f17 f18 f19 f20 f21 f145
            go_upto_if 145 with (fail)
            refine wp_cut (fun a' wx => At [(0, .slice A ys.length cA), (1, .slice B1 sy.length d1), (2, .slice B2 fl.length d2), (3, .slice B3 kp.length d3), (16, .pointer (some ⟨b, 0, none⟩)), (17, .slice A1 (n + 1) c1), (18, .slice A2 (n + 1) c2), (19, .int .i64 (a : Nat)), (20, .int .i64 (r : Nat)), (21, .int .i64 (k : Nat))] a' ∧ Hid (KAt w w0.heap.size b L' L'.kept n A1 c1 A2 c2 wx)) ?rest4 ?first4
            case first4 =>
              intro J K' hJ hM
              go_wp2_with fail
              exact Met.intro (hJ _ _ ⟨⟨rfl, rfl, by intro kk hkk; simp only [List.mem_cons, List.not_mem_nil, or_false] at hkk; rcases hkk with rfl | rfl | rfl | rfl | rfl | rfl | rfl | rfl | rfl | rfl <;> rfl⟩, HK'⟩)
            case rest4 =>
            rintro a' wr5 ⟨ha, HK2⟩
            clear HK'
            obtain ⟨f, rfl, hf⟩ := frame_open ha
            have f0 := hf (0, .slice A ys.length cA) (by simp)
            have f1 := hf (1, .slice B1 sy.length d1) (by simp)
            have f2 := hf (2, .slice B2 fl.length d2) (by simp)
            have f3 := hf (3, .slice B3 kp.length d3) (by simp)
            have f16 := hf (16, .pointer (some ⟨b, 0, none⟩)) (by simp)
            have f17 := hf (17, .slice A1 (n + 1) c1) (by simp)
            have f18 := hf (18, .slice A2 (n + 1) c2) (by simp)
            have f19 := hf (19, .int .i64 (a : Nat)) (by simp)
            have f20 := hf (20, .int .i64 (r : Nat)) (by simp)
            have f21 := hf (21, .int .i64 (k : Nat)) (by simp)
            dsimp only at f0 f1 f2 f3 f16 f17 f18 f19 f20 f21
            rw [f0, f1, f2, f3, f16, f17, f18, f19, f20, f21]
            clear hf ha f0 f1 f2 f3 f16 f17 f18 f19 f20 f21
            refine (?hk1 : ∀ (a' : Act) (w'' : World), Code.wp Tryz.prog ?cc1 ?QQ1 a' w'' → (?KK1 : Act → World → Prop) a' w'') _ _ ?_
            case hk1 => assumption
            refine (lawLogKeeps.inner w wr5 HGL.out A cA ys HR.out HG.out hnl w0.heap.size b r k a n g2 L' A1 c1 A2 c2 HK2 _ ?_)
            unfold lawLogKeeps.InnerQ
            intro n3 L3 A3 c3 A4 c4 wx v4 v5 v6 v7 v8 v9 v10 v11 v12 v13 v14 v15 v22 v23 v24 v25 v26 v27 v28 v29 v30 v31 v32 v33 v34 v35 v36 v37 v38 v39 v40 v41 v42 v43 v44 v45 v46 v47 v48 v49 v50 v51 v52 v53 v54 v55 v56 v57 v58 v59 v60 v61 v62 v63 v64 v65 v66 v67 v68 v69 v70 v71 v72 v73 v74 v75 v76 v77 v78 v79 v80 v81 v82 v83 v84 v85 v86 v87 v88 v89 v90 v91 v92 v93 v94 v95 v96 v97 v98 v99 v100 v101 v102 v103 v104 v105 v106 v107 v108 v109 v110 v111 v112 v113 v114 v115 v116 v117 v118 v119 v120 v121 v122 v123 v124 v125 v126 v127 v128 v129 v130 v131 v132 v133 v134 v135 v136 v137 v138 v139 v140 v141 v142 v143 v144 v145 v146 v147 v148 v149 v150 v151 v152 v153 v154 v155 v156 v157 v158 v159 v160 v161 v162 v163 v164 v165 v166 v167 v168 v169 v170 v171 v172 v173 v174 v175 v176 v177 v178 v179 v180 v181 v182 v183 v184 v185 v186 v187 v188 v189 v190 v191 v192 v193 v194 v195 v196 v197 v198 v199 v200 v201 v202 v203 v204 v205 v206 v207 v208 v209 v210 v211 v212 v213 v214 v215 v216 v217 v218 v219 v220 v221 v222 v223 v224 v225 v226 v227 v228 v229 v230 v231 v232 v233 v234 v235 v236 v237 v238 v239 v240 v241 v242 v243 v244 v245 v246 v247 v248 v249 v250 v251 v252 v253 v254 v255 v256 v257 v258 v259 v260 v261 v262 v263 v264 v265 v266 v267 v268 v269 v270 v271 v272 v273 v274 v275 v276 v277 v278 v279 v280 v281 v282 v283 v284 v285 v286 v287 v288 v289 v290 v291 v292 v293 v294 v295 v296 v297 v298 v299 v300 v301 v302 v303 v304 v305 v306 v307 v308 v309 v310 v311 v312 v313 v314 v315 v316 v317 v318 v319 v320 v321 v322 v323 v324 v325 v326 v327 v328 v329 v330 v331 v332 v333 v334 v335 v336 v337 HK9
            go_wp2_with fail
            refine ⟨⟨k + 1, a + 1, n3, L3, A3, c3, A4, c4, ⟨rfl, rfl, by intro kk hkk; simp only [List.mem_cons, List.not_mem_nil, or_false] at hkk; rcases hkk with rfl | rfl | rfl | rfl | rfl | rfl | rfl | rfl | rfl | rfl <;> rfl⟩, by omega, by omega, HK9⟩, ?_⟩
            show 8 - (intOf (.int .i64 ((k : Int) + 1))).toNat < 8 - (intOf (.int .i64 (k : Int))).toNat
            simp [intOf]; omega
          · go_upto_region 21 with (fail)
            refine wp_cut (fun a' wx => At [(0, .slice A ys.length cA), (1, .slice B1 sy.length d1), (2, .slice B2 fl.length d2), (3, .slice B3 kp.length d3), (16, .pointer (some ⟨b, 0, none⟩)), (17, .slice A1 (n + 1) c1), (18, .slice A2 (n + 1) c2), (19, .int .i64 (a : Nat)), (20, .int .i64 (r : Nat)), (21, .int .i64 (k : Nat)), (120, .bool false)] a' ∧ wx = wr3) ?rest5 ?first5
            case first5 =>
              intro J K' hJ hM
              by_cases k1 : k < 8
              · have k2 : (k : Int) < 8 := by omega
                have k3 : ¬ (a : Int) < (ys.length : Int) := by omega
                clear hgo k1
                go_wp2_with fail
                exact Met.intro (hJ _ _ ⟨⟨rfl, rfl, by intro kk hkk; simp only [List.mem_cons, List.not_mem_nil, or_false] at hkk; rcases hkk with rfl | rfl | rfl | rfl | rfl | rfl | rfl | rfl | rfl | rfl | rfl <;> rfl⟩, rfl⟩)
              · have k2 : ¬ (k : Int) < 8 := by omega
                clear hgo k1
                go_wp2_with fail
                exact Met.intro (hJ _ _ ⟨⟨rfl, rfl, by intro kk hkk; simp only [List.mem_cons, List.not_mem_nil, or_false] at hkk; rcases hkk with rfl | rfl | rfl | rfl | rfl | rfl | rfl | rfl | rfl | rfl | rfl <;> rfl⟩, rfl⟩)
            case rest5 =>
            rintro a' wr4 ⟨ha, hw⟩
            obtain rfl := hw.symm
            clear hgo hw
            obtain ⟨f, rfl, hf⟩ := frame_open ha
            have f0 := hf (0, .slice A ys.length cA) (by simp)
            have f1 := hf (1, .slice B1 sy.length d1) (by simp)
            have f2 := hf (2, .slice B2 fl.length d2) (by simp)
            have f3 := hf (3, .slice B3 kp.length d3) (by simp)
            have f16 := hf (16, .pointer (some ⟨b, 0, none⟩)) (by simp)
            have f17 := hf (17, .slice A1 (n + 1) c1) (by simp)
            have f18 := hf (18, .slice A2 (n + 1) c2) (by simp)
            have f19 := hf (19, .int .i64 (a : Nat)) (by simp)
            have f20 := hf (20, .int .i64 (r : Nat)) (by simp)
            have f21 := hf (21, .int .i64 (k : Nat)) (by simp)
            have f120 := hf (120, .bool false) (by simp)
            dsimp only at f0 f1 f2 f3 f16 f17 f18 f19 f20 f21 f120
            rw [f0, f1, f2, f3, f16, f17, f18, f19, f20, f21, f120]
            clear hf ha f0 f1 f2 f3 f16 f17 f18 f19 f20 f21 f120
            go_wp2_with fail
            exact Met.intro (hJ _ _ ⟨a, n, L, A1, c1, A2, c2, ⟨rfl, rfl, by intro kk hkk; simp only [List.mem_cons, List.not_mem_nil, or_false] at hkk; rcases hkk with rfl | rfl | rfl | rfl | rfl | rfl | rfl | rfl | rfl <;> rfl⟩, hna, HK⟩)
      case rest2 =>
      rintro a' wr3 ⟨a, n, L, A1, c1, A2, c2, ha, hna, HK⟩
      clear HK'
      obtain ⟨f, rfl, hf⟩ := frame_open ha
      have f0 := hf (0, .slice A ys.length cA) (by simp)
      have f1 := hf (1, .slice B1 sy.length d1) (by simp)
      have f2 := hf (2, .slice B2 fl.length d2) (by simp)
      have f3 := hf (3, .slice B3 kp.length d3) (by simp)
      have f16 := hf (16, .pointer (some ⟨b, 0, none⟩)) (by simp)
      have f17 := hf (17, .slice A1 (n + 1) c1) (by simp)
      have f18 := hf (18, .slice A2 (n + 1) c2) (by simp)
      have f19 := hf (19, .int .i64 (a : Nat)) (by simp)
      have f20 := hf (20, .int .i64 (r : Nat)) (by simp)
      dsimp only at f0 f1 f2 f3 f16 f17 f18 f19 f20
      rw [f0, f1, f2, f3, f16, f17, f18, f19, f20]
      clear hf ha f0 f1 f2 f3 f16 f17 f18 f19 f20
      rename_i hK
      refine hK _ _ (lawLogKeepsCr.crash w wr3 B3 d3 kp HKP.out HKR.out hnk w0.heap.size b r a n L A1 c1 A2 c2 HK _ ?_)
      unfold lawLogKeepsCr.CrashQ
      intro n3 L3 A3 c3 A4 c4 wx v4 v5 v6 v7 v8 v9 v10 v11 v12 v13 v14 v15 v21 v22 v23 v24 v25 v26 v27 v28 v29 v30 v31 v32 v33 v34 v35 v36 v37 v38 v39 v40 v41 v42 v43 v44 v45 v46 v47 v48 v49 v50 v51 v52 v53 v54 v55 v56 v57 v58 v59 v60 v61 v62 v63 v64 v65 v66 v67 v68 v69 v70 v71 v72 v73 v74 v75 v76 v77 v78 v79 v80 v81 v82 v83 v84 v85 v86 v87 v88 v89 v90 v91 v92 v93 v94 v95 v96 v97 v98 v99 v100 v101 v102 v103 v104 v105 v106 v107 v108 v109 v110 v111 v112 v113 v114 v115 v116 v117 v118 v119 v120 v121 v122 v123 v124 v125 v126 v127 v128 v129 v130 v131 v132 v133 v134 v135 v136 v137 v138 v139 v140 v141 v142 v143 v144 v145 v146 v147 v148 v149 v150 v151 v152 v153 v154 v155 v156 v157 v158 v159 v160 v161 v162 v163 v164 v165 v166 v167 v168 v169 v170 v171 v172 v173 v174 v175 v176 v177 v178 v179 v180 v181 v182 v183 v184 v185 v186 v187 v188 v189 v190 v191 v192 v193 v194 v195 v196 v197 v198 v199 v200 v201 v202 v203 v204 v205 v206 v207 v208 v209 v210 v211 v212 v213 v214 v215 v216 v217 v218 v219 v220 v221 v222 v223 v224 v225 v226 v227 v228 v229 v230 v231 v232 v233 v234 v235 v236 v237 v238 v239 v240 v241 v242 v243 v244 v245 v246 v247 v248 v249 v250 v251 v252 v253 v254 v255 v256 v257 v258 v259 v260 v261 v262 v263 v264 v265 v266 v267 v268 v269 v270 v271 v272 v273 v274 v275 v276 v277 v278 v279 v280 v281 v282 v283 v284 v285 v286 v287 v288 v289 v290 v291 v292 v293 v294 v295 v296 v297 v298 v299 v300 v301 v302 v303 v304 v305 v306 v307 v308 v309 v310 v311 v312 v313 v314 v315 v316 v317 v318 v319 v320 v321 v322 v323 v324 v325 v326 v327 v328 v329 v330 v331 v332 v333 v334 v335 v336 v337 HK9
      go_wp2_with fail
      refine ⟨⟨r + 1, a, n3, L3, A3, c3, A4, c4, ⟨rfl, rfl, by intro kk hkk; simp only [List.mem_cons, List.not_mem_nil, or_false] at hkk; rcases hkk with rfl | rfl | rfl | rfl | rfl | rfl | rfl | rfl | rfl <;> rfl⟩, by omega, hna, HK9⟩, ?_⟩
      show 4 - (intOf (.int .i64 ((r : Int) + 1))).toNat < 4 - (intOf (.int .i64 (r : Int))).toNat
      simp [intOf]; omega
    · have HF := Lib.hid HK.out.below
      go_upto_region 16 with (fail)
      refine wp_cut (fun a' wx => At [(0, .slice A ys.length cA), (1, .slice B1 sy.length d1), (2, .slice B2 fl.length d2), (3, .slice B3 kp.length d3), (16, .pointer (some ⟨b, 0, none⟩)), (17, .slice A1 (n + 1) c1), (18, .slice A2 (n + 1) c2), (19, .int .i64 (a : Nat)), (20, .int .i64 (r : Nat)), (100, .bool false)] a' ∧ wx = wr) ?rest6 ?first6
      case first6 =>
        intro J K' hJ hM
        by_cases k1 : r ≤ fl.length
        · have k2 : (r : Int) ≤ (fl.length : Int) := by omega
          have k3 : ¬ (r : Int) < 4 := by omega
          clear hgo k1
          go_wp2_with fail
          exact Met.intro (hJ _ _ ⟨⟨rfl, rfl, by intro kk hkk; simp only [List.mem_cons, List.not_mem_nil, or_false] at hkk; rcases hkk with rfl | rfl | rfl | rfl | rfl | rfl | rfl | rfl | rfl | rfl <;> rfl⟩, rfl⟩)
        · have k2 : ¬ (r : Int) ≤ (fl.length : Int) := by omega
          clear hgo k1
          go_wp2_with fail
          exact Met.intro (hJ _ _ ⟨⟨rfl, rfl, by intro kk hkk; simp only [List.mem_cons, List.not_mem_nil, or_false] at hkk; rcases hkk with rfl | rfl | rfl | rfl | rfl | rfl | rfl | rfl | rfl | rfl <;> rfl⟩, rfl⟩)
      case rest6 =>
      rintro a' wr2 ⟨ha, hw⟩
      obtain rfl := hw.symm
      clear hw hgo
      obtain ⟨f, rfl, hf⟩ := frame_open ha
      have f0 := hf (0, .slice A ys.length cA) (by simp)
      have f1 := hf (1, .slice B1 sy.length d1) (by simp)
      have f2 := hf (2, .slice B2 fl.length d2) (by simp)
      have f3 := hf (3, .slice B3 kp.length d3) (by simp)
      have f16 := hf (16, .pointer (some ⟨b, 0, none⟩)) (by simp)
      have f17 := hf (17, .slice A1 (n + 1) c1) (by simp)
      have f18 := hf (18, .slice A2 (n + 1) c2) (by simp)
      have f19 := hf (19, .int .i64 (a : Nat)) (by simp)
      have f20 := hf (20, .int .i64 (r : Nat)) (by simp)
      have f100 := hf (100, .bool false) (by simp)
      dsimp only at f0 f1 f2 f3 f16 f17 f18 f19 f20 f100
      rw [f0, f1, f2, f3, f16, f17, f18, f19, f20, f100]
      clear hf ha f0 f1 f2 f3 f16 f17 f18 f19 f20 f100
      go_wp2_with fail
      go_ret
      exact ⟨rfl, HF.out⟩
end lawLogKeeps
end Go.Proofs.YthfbjfocmnikaaaGreatDoor

/- leaflaw3.LogKeeps, behind a crash: the documents are compared, the rows are cut. Conditions: none of our own. -/
import Derived.Deep.CutBlock
import Derived.Deep.RegionHeld3
import Derived.Test.YthfbjfocmnikaaaGreatDoorCard
import Derived.Test.YthfbjfocmnikaaaGreatDoorKeepSc2
import Derived.Test.YthfbjfocmnikaaaGreatDoorTold
namespace Go.Proofs.YthfbjfocmnikaaaGreatDoor
open Go.RowKit
set_option linter.unusedVariables false
namespace lawLogKeepsCr
/-- Where the code stands at region n, inside loops too. -/
def headAt (n : Nat) : Code → Bool
  | .region k _ _ => k == n
  | .seq a _ => headAt n a
  | _ => false
def fromAt (n : Nat) : Code → Option Code
  | .seq a b => if headAt n a then some (.seq a b) else match fromAt n a with
    | some c => some c
    | none => fromAt n b
  | .block _ c => fromAt n c
  | .loop c => fromAt n c
  | .scope c => fromAt n c
  | _ => none
/-- What a crash leaves, whatever the scratch holds. -/
def CrashQ (w : World) (B b r a : Nat) (p0 p1 p2 p3 : Value) (Q : Exit → Act → World → Prop) : Prop :=
  ∀ (n3 : Nat) (L3 : LLog) (A1 : Option Addr) (c1 : Nat) (A2 : Option Addr) (c2 : Nat) (wx : World) (v4 v5 v6 v7 v8 v9 v10 v11 v12 v13 v14 v15 v21 v22 v23 v24 v25 v26 v27 v28 v29 v30 v31 v32 v33 v34 v35 v36 v37 v38 v39 v40 v41 v42 v43 v44 v45 v46 v47 v48 v49 v50 v51 v52 v53 v54 v55 v56 v57 v58 v59 v60 v61 v62 v63 v64 v65 v66 v67 v68 v69 v70 v71 v72 v73 v74 v75 v76 v77 v78 v79 v80 v81 v82 v83 v84 v85 v86 v87 v88 v89 v90 v91 v92 v93 v94 v95 v96 v97 v98 v99 v100 v101 v102 v103 v104 v105 v106 v107 v108 v109 v110 v111 v112 v113 v114 v115 v116 v117 v118 v119 v120 v121 v122 v123 v124 v125 v126 v127 v128 v129 v130 v131 v132 v133 v134 v135 v136 v137 v138 v139 v140 v141 v142 v143 v144 v145 v146 v147 v148 v149 v150 v151 v152 v153 v154 v155 v156 v157 v158 v159 v160 v161 v162 v163 v164 v165 v166 v167 v168 v169 v170 v171 v172 v173 v174 v175 v176 v177 v178 v179 v180 v181 v182 v183 v184 v185 v186 v187 v188 v189 v190 v191 v192 v193 v194 v195 v196 v197 v198 v199 v200 v201 v202 v203 v204 v205 v206 v207 v208 v209 v210 v211 v212 v213 v214 v215 v216 v217 v218 v219 v220 v221 v222 v223 v224 v225 v226 v227 v228 v229 v230 v231 v232 v233 v234 v235 v236 v237 v238 v239 v240 v241 v242 v243 v244 v245 v246 v247 v248 v249 v250 v251 v252 v253 v254 v255 v256 v257 v258 v259 v260 v261 v262 v263 v264 v265 v266 v267 v268 v269 v270 v271 v272 v273 v274 v275 v276 v277 v278 v279 v280 v281 v282 v283 v284 v285 v286 v287 v288 v289 v290 v291 v292 v293 v294 v295 v296 v297 v298 v299 v300 v301 v302 v303 v304 v305 v306 v307 v308 v309 v310 v311 v312 v313 v314 v315 v316 v317 v318 v319 v320 v321 v322 v323 v324 v325 v326 v327 v328 v329 v330 v331 v332 v333 v334 v335 v336 v337 : Value), Hid (KAt w B b L3 L3.kept n3 A1 c1 A2 c2 wx) → Q .normal ⟨#[p0, p1, p2, p3, v4, v5, v6, v7, v8, v9, v10, v11, v12, v13, v14, v15, .pointer (some ⟨b, 0, none⟩), .slice A1 (n3 + 1) c1, .slice A2 (n3 + 1) c2, .int .i64 (a : Nat), .int .i64 (r : Nat), v21, v22, v23, v24, v25, v26, v27, v28, v29, v30, v31, v32, v33, v34, v35, v36, v37, v38, v39, v40, v41, v42, v43, v44, v45, v46, v47, v48, v49, v50, v51, v52, v53, v54, v55, v56, v57, v58, v59, v60, v61, v62, v63, v64, v65, v66, v67, v68, v69, v70, v71, v72, v73, v74, v75, v76, v77, v78, v79, v80, v81, v82, v83, v84, v85, v86, v87, v88, v89, v90, v91, v92, v93, v94, v95, v96, v97, v98, v99, v100, v101, v102, v103, v104, v105, v106, v107, v108, v109, v110, v111, v112, v113, v114, v115, v116, v117, v118, v119, v120, v121, v122, v123, v124, v125, v126, v127, v128, v129, v130, v131, v132, v133, v134, v135, v136, v137, v138, v139, v140, v141, v142, v143, v144, v145, v146, v147, v148, v149, v150, v151, v152, v153, v154, v155, v156, v157, v158, v159, v160, v161, v162, v163, v164, v165, v166, v167, v168, v169, v170, v171, v172, v173, v174, v175, v176, v177, v178, v179, v180, v181, v182, v183, v184, v185, v186, v187, v188, v189, v190, v191, v192, v193, v194, v195, v196, v197, v198, v199, v200, v201, v202, v203, v204, v205, v206, v207, v208, v209, v210, v211, v212, v213, v214, v215, v216, v217, v218, v219, v220, v221, v222, v223, v224, v225, v226, v227, v228, v229, v230, v231, v232, v233, v234, v235, v236, v237, v238, v239, v240, v241, v242, v243, v244, v245, v246, v247, v248, v249, v250, v251, v252, v253, v254, v255, v256, v257, v258, v259, v260, v261, v262, v263, v264, v265, v266, v267, v268, v269, v270, v271, v272, v273, v274, v275, v276, v277, v278, v279, v280, v281, v282, v283, v284, v285, v286, v287, v288, v289, v290, v291, v292, v293, v294, v295, v296, v297, v298, v299, v300, v301, v302, v303, v304, v305, v306, v307, v308, v309, v310, v311, v312, v313, v314, v315, v316, v317, v318, v319, v320, v321, v322, v323, v324, v325, v326, v327, v328, v329, v330, v331, v332, v333, v334, v335, v336, v337], []⟩ wx
theorem CrashQ.use {w : World} {B b r a : Nat} {p0 p1 p2 p3 : Value} {Q : Exit → Act → World → Prop} (h : CrashQ w B b r a p0 p1 p2 p3 Q) {n3 : Nat} {L3 : LLog} {A1 : Option Addr} {c1 : Nat} {A2 : Option Addr} {c2 : Nat} {wx : World} {v4 v5 v6 v7 v8 v9 v10 v11 v12 v13 v14 v15 v21 v22 v23 v24 v25 v26 v27 v28 v29 v30 v31 v32 v33 v34 v35 v36 v37 v38 v39 v40 v41 v42 v43 v44 v45 v46 v47 v48 v49 v50 v51 v52 v53 v54 v55 v56 v57 v58 v59 v60 v61 v62 v63 v64 v65 v66 v67 v68 v69 v70 v71 v72 v73 v74 v75 v76 v77 v78 v79 v80 v81 v82 v83 v84 v85 v86 v87 v88 v89 v90 v91 v92 v93 v94 v95 v96 v97 v98 v99 v100 v101 v102 v103 v104 v105 v106 v107 v108 v109 v110 v111 v112 v113 v114 v115 v116 v117 v118 v119 v120 v121 v122 v123 v124 v125 v126 v127 v128 v129 v130 v131 v132 v133 v134 v135 v136 v137 v138 v139 v140 v141 v142 v143 v144 v145 v146 v147 v148 v149 v150 v151 v152 v153 v154 v155 v156 v157 v158 v159 v160 v161 v162 v163 v164 v165 v166 v167 v168 v169 v170 v171 v172 v173 v174 v175 v176 v177 v178 v179 v180 v181 v182 v183 v184 v185 v186 v187 v188 v189 v190 v191 v192 v193 v194 v195 v196 v197 v198 v199 v200 v201 v202 v203 v204 v205 v206 v207 v208 v209 v210 v211 v212 v213 v214 v215 v216 v217 v218 v219 v220 v221 v222 v223 v224 v225 v226 v227 v228 v229 v230 v231 v232 v233 v234 v235 v236 v237 v238 v239 v240 v241 v242 v243 v244 v245 v246 v247 v248 v249 v250 v251 v252 v253 v254 v255 v256 v257 v258 v259 v260 v261 v262 v263 v264 v265 v266 v267 v268 v269 v270 v271 v272 v273 v274 v275 v276 v277 v278 v279 v280 v281 v282 v283 v284 v285 v286 v287 v288 v289 v290 v291 v292 v293 v294 v295 v296 v297 v298 v299 v300 v301 v302 v303 v304 v305 v306 v307 v308 v309 v310 v311 v312 v313 v314 v315 v316 v317 v318 v319 v320 v321 v322 v323 v324 v325 v326 v327 v328 v329 v330 v331 v332 v333 v334 v335 v336 v337 : Value} (hk : Hid (KAt w B b L3 L3.kept n3 A1 c1 A2 c2 wx)) : Q .normal ⟨#[p0, p1, p2, p3, v4, v5, v6, v7, v8, v9, v10, v11, v12, v13, v14, v15, .pointer (some ⟨b, 0, none⟩), .slice A1 (n3 + 1) c1, .slice A2 (n3 + 1) c2, .int .i64 (a : Nat), .int .i64 (r : Nat), v21, v22, v23, v24, v25, v26, v27, v28, v29, v30, v31, v32, v33, v34, v35, v36, v37, v38, v39, v40, v41, v42, v43, v44, v45, v46, v47, v48, v49, v50, v51, v52, v53, v54, v55, v56, v57, v58, v59, v60, v61, v62, v63, v64, v65, v66, v67, v68, v69, v70, v71, v72, v73, v74, v75, v76, v77, v78, v79, v80, v81, v82, v83, v84, v85, v86, v87, v88, v89, v90, v91, v92, v93, v94, v95, v96, v97, v98, v99, v100, v101, v102, v103, v104, v105, v106, v107, v108, v109, v110, v111, v112, v113, v114, v115, v116, v117, v118, v119, v120, v121, v122, v123, v124, v125, v126, v127, v128, v129, v130, v131, v132, v133, v134, v135, v136, v137, v138, v139, v140, v141, v142, v143, v144, v145, v146, v147, v148, v149, v150, v151, v152, v153, v154, v155, v156, v157, v158, v159, v160, v161, v162, v163, v164, v165, v166, v167, v168, v169, v170, v171, v172, v173, v174, v175, v176, v177, v178, v179, v180, v181, v182, v183, v184, v185, v186, v187, v188, v189, v190, v191, v192, v193, v194, v195, v196, v197, v198, v199, v200, v201, v202, v203, v204, v205, v206, v207, v208, v209, v210, v211, v212, v213, v214, v215, v216, v217, v218, v219, v220, v221, v222, v223, v224, v225, v226, v227, v228, v229, v230, v231, v232, v233, v234, v235, v236, v237, v238, v239, v240, v241, v242, v243, v244, v245, v246, v247, v248, v249, v250, v251, v252, v253, v254, v255, v256, v257, v258, v259, v260, v261, v262, v263, v264, v265, v266, v267, v268, v269, v270, v271, v272, v273, v274, v275, v276, v277, v278, v279, v280, v281, v282, v283, v284, v285, v286, v287, v288, v289, v290, v291, v292, v293, v294, v295, v296, v297, v298, v299, v300, v301, v302, v303, v304, v305, v306, v307, v308, v309, v310, v311, v312, v313, v314, v315, v316, v317, v318, v319, v320, v321, v322, v323, v324, v325, v326, v327, v328, v329, v330, v331, v332, v333, v334, v335, v336, v337], []⟩ wx := by
  unfold CrashQ at h
  apply h
  exact hk
noncomputable def crashCode2 : Code := ((Tryz.f3.body.bind (fromAt 59)).getD .skip)
set_option maxRecDepth 100000 in
set_option maxHeartbeats 16000000 in
theorem crash2 (w w1 : World) (p0 p1 p2 p3 : Value) (B b r a n : Nat) (L : LLog) (m : Int) (hok : L.Ok) (hlen : n = L.kept.length) (A1 : Option Addr) (c1 g2 c2 : Nat) (HC : Hid (KAt w B b (L.crash m) L.kept n A1 c1 (some ⟨g2, 0, none⟩) c2 w1)) (re : Nat) (hre : re = L.rest m)
    (hnum : ∀ k, k ≤ n → ∀ W, Below w1.heap.size w1 W → W.cell? ⟨g2, k, none⟩ = some (.int .i64 ((packBody (L.kept.take k)).length : Nat)))
    {u4 u5 u6 u7 u8 u9 u10 u11 u12 u13 u14 u15 u21 u22 u23 u24 u25 u26 u27 u28 u29 u30 u31 u32 u33 u34 u36 u37 u38 u39 u40 u41 u42 u43 u44 u45 u46 u47 u48 u49 u50 u51 u52 u53 u54 u55 u56 u57 u58 u59 u60 u61 u62 u63 u64 u65 u66 u67 u68 u69 u70 u71 u72 u73 u74 u75 u76 u77 u78 u79 u80 u81 u82 u83 u84 u85 u86 u87 u88 u89 u90 u91 u92 u93 u94 u95 u96 u97 u98 u99 u100 u101 u102 u103 u104 u105 u106 u107 u108 u109 u110 u111 u112 u113 u114 u115 u116 u117 u118 u119 u120 u121 u122 u123 u124 u125 u126 u127 u128 u129 u130 u131 u132 u133 u134 u135 u136 u137 u138 u139 u140 u141 u142 u143 u144 u145 u146 u147 u148 u149 u150 u151 u152 u153 u154 u155 u156 u157 u158 u159 u160 u161 u162 u163 u164 u165 u166 u167 u168 u169 u170 u171 u172 u173 u174 u175 u176 u177 u178 u179 u180 u181 u182 u183 u184 u185 u186 u187 u188 u189 u190 u191 u192 u193 u194 u195 u196 u197 u198 u199 u200 u201 u202 u203 u204 u205 u206 u207 u208 u209 u210 u211 u212 u213 u214 u215 u216 u217 u218 u219 u220 u221 u222 u223 u224 u225 u226 u227 u228 u229 u230 u231 u232 u233 u234 u235 u236 u237 u238 u239 u240 u241 u242 u243 u244 u245 u246 u247 u248 u249 u250 u251 u252 u253 u254 u255 u256 u257 u258 u259 u260 u261 u262 u263 u264 u265 u266 u267 u268 u269 u270 u271 u272 u273 u274 u275 u276 u277 u278 u279 u280 u281 u282 u283 u284 u285 u286 u287 u288 u289 u290 u291 u292 u293 u294 u295 u296 u297 u298 u299 u300 u301 u302 u303 u304 u305 u306 u307 u308 u309 u310 u311 u312 u313 u314 u315 u316 u317 u318 u319 u320 u321 u322 u323 u324 u325 u326 u327 u328 u329 u330 u331 u332 u333 u334 u335 u336 u337 : Value} (Q : Exit → Act → World → Prop) (hq : CrashQ w B b r a p0 p1 p2 p3 Q) :
    Code.wp Tryz.prog crashCode2 Q ⟨#[p0, p1, p2, p3, u4, u5, u6, u7, u8, u9, u10, u11, u12, u13, u14, u15, .pointer (some ⟨b, 0, none⟩), .slice A1 (n + 1) c1, .slice (some ⟨g2, 0, none⟩) (n + 1) c2, .int .i64 (a : Nat), .int .i64 (r : Nat), u21, u22, u23, u24, u25, u26, u27, u28, u29, u30, u31, u32, u33, u34, .int .i64 (re : Nat), u36, u37, u38, u39, u40, u41, u42, u43, u44, u45, u46, u47, u48, u49, u50, u51, u52, u53, u54, u55, u56, u57, u58, u59, u60, u61, u62, u63, u64, u65, u66, u67, u68, u69, u70, u71, u72, u73, u74, u75, u76, u77, u78, u79, u80, u81, u82, u83, u84, u85, u86, u87, u88, u89, u90, u91, u92, u93, u94, u95, u96, u97, u98, u99, u100, u101, u102, u103, u104, u105, u106, u107, u108, u109, u110, u111, u112, u113, u114, u115, u116, u117, u118, u119, u120, u121, u122, u123, u124, u125, u126, u127, u128, u129, u130, u131, u132, u133, u134, u135, u136, u137, u138, u139, u140, u141, u142, u143, u144, u145, u146, u147, u148, u149, u150, u151, u152, u153, u154, u155, u156, u157, u158, u159, u160, u161, u162, u163, u164, u165, u166, u167, u168, u169, u170, u171, u172, u173, u174, u175, u176, u177, u178, u179, u180, u181, u182, u183, u184, u185, u186, u187, u188, u189, u190, u191, u192, u193, u194, u195, u196, u197, u198, u199, u200, u201, u202, u203, u204, u205, u206, u207, u208, u209, u210, u211, u212, u213, u214, u215, u216, u217, u218, u219, u220, u221, u222, u223, u224, u225, u226, u227, u228, u229, u230, u231, u232, u233, u234, u235, u236, u237, u238, u239, u240, u241, u242, u243, u244, u245, u246, u247, u248, u249, u250, u251, u252, u253, u254, u255, u256, u257, u258, u259, u260, u261, u262, u263, u264, u265, u266, u267, u268, u269, u270, u271, u272, u273, u274, u275, u276, u277, u278, u279, u280, u281, u282, u283, u284, u285, u286, u287, u288, u289, u290, u291, u292, u293, u294, u295, u296, u297, u298, u299, u300, u301, u302, u303, u304, u305, u306, u307, u308, u309, u310, u311, u312, u313, u314, u315, u316, u317, u318, u319, u320, u321, u322, u323, u324, u325, u326, u327, u328, u329, u330, u331, u332, u333, u334, u335, u336, u337], []⟩ w1 := by
  have HOK := Lib.hid hok
  have HLEN := Lib.hid hlen
  have HRE := Lib.hid hre
  have HNUM := Lib.hid hnum
  have HQ := Lib.hid hq
  have HH : Hid True := trivial
  clear hok hlen hre hnum hq
  conv => arg 2; whnf
  dsimp only
  have hrn : re ≤ n := by rw [HRE.out, HLEN.out]; exact HOK.out.rest_le m
  obtain ⟨g3, p3, bd, S1, S2, D1, D2, e1, hc3, htw, hdc⟩ := HC.out.twin hrn (by rw [HRE.out]; exact HOK.out.crash_doc m)
  have hcap := HC.out.caps
  have HCUT : Hid (KAt w B b (L.crash m) (L.crash m).kept re A1 c1 (some ⟨g2, 0, none⟩) c2 w1) := HC.out.cut hrn (by rw [HRE.out]; exact HOK.out.crash_kept m)
  have hms := HOK.out.crash_m m
  rw [← HRE.out] at hms
  have HBY := Lib.hid (fun W hW => (HC.out.step (w' := W) hW).bytes)
  have HSF := Lib.hid (fun W hW => (HC.out.step (w' := W) hW).safe)
  obtain ⟨pk, hpk⟩ : ∃ pk, pk = (packBody (L.kept.take re)).length := ⟨_, rfl⟩
  rw [← hpk] at hms
  rw [hms.1] at HBY
  rw [hms.2] at HSF
  have HCK := Lib.hid (HNUM.out re hrn)
  rw [← hpk] at HCK
  subst e1
  have HC3 := Lib.hid hc3
  have HTW := Lib.hid htw
  have HDC := Lib.hid hdc
  have HDO := Lib.hid (HC.out.ok.doc_ok)
  have q0 : (0 : Int) ≤ (re : Int) := by omega
  have q1 : (re : Int) ≤ (n : Int) := by omega
  have q2 : (re : Int) < (n : Int) + 1 := by omega
  have q3 : (re : Int) + 1 ≤ (n : Int) + 1 := by omega
  have x1 : (re : Int) + 1 ≤ (c1 : Int) := by omega
  have x2 : (re : Int) + 1 ≤ (c2 : Int) := by omega
  have x3 : (c1 : Int) ≤ 9223372036854775807 := by omega
  have x4 : (c2 : Int) ≤ 9223372036854775807 := by omega
  have HBR : Hid (Below w1.heap.size w1 w1) := Below.refl _ _
  clear hc3 htw hdc hrn hms hpk hcap HNUM HOK HLEN HH HRE HC
  generalize L.crash m = L3 at *
  have HBO := Lib.hid (fun W hb => HTW.out.books HDO.out W hb)
  have HMA := Lib.hid (fun W hb => HTW.out.markss HDO.out W hb)
  have HKN := Lib.hid (fun W hb => HTW.out.knowns HDO.out W hb)
  have HCEL : Hid (∀ W, Below w1.heap.size w1 W → W.cell? ⟨g3, re, none⟩ = some (.pointer (some ⟨p3, 0, none⟩)) ∧ W.cell? ⟨p3, 0, none⟩ = some (.slice D2.a1 L3.doc.book.length D2.c1) ∧ W.cell? ⟨p3, 1, none⟩ = some (.slice D2.a2 L3.doc.marks.length D2.c2) ∧ W.cell? ⟨p3, 2, none⟩ = some (.slice D2.a3 L3.doc.known.length D2.c3)) := fun W hW => ⟨HC3.out W hW, (HTW.out.rcells W hW).1, (HTW.out.rcells W hW).2.1, (HTW.out.rcells W hW).2.2.1⟩
  obtain ⟨r0', r1, r2, r3⟩ := HCEL.out w1 HBR.out
  clear HC3
  go_upto_region 59 with (fail)
  go_cut [37] from 225 to 337 (fun v wx => v = .bool true ∧ Below w1.heap.size w1 wx)
  case first =>
    go_region_held3 (fun w' => w'.cell? ⟨g3, re, none⟩ = some (.pointer (some ⟨p3, 0, none⟩)) ∧ w'.cell? ⟨p3, 0, none⟩ = some (.slice D2.a1 L3.doc.book.length D2.c1) ∧ w'.cell? ⟨p3, 1, none⟩ = some (.slice D2.a2 L3.doc.marks.length D2.c2) ∧ w'.cell? ⟨p3, 2, none⟩ = some (.slice D2.a3 L3.doc.known.length D2.c3))
      (first | go_keep | (refine ⟨?_, ?_, ?_, ?_⟩ <;> assumption))
      (first
        | (go_at_call 13; refine (HDC.out _ (by first | exact HBR.out | exact below_drewN HBR.out _ | exact HBR.out.drew)).mono ?_; rintro e w6 ⟨rfl, hw⟩
           obtain rfl := hw.symm)
        | (go_at_call 23; refine (HBO.out _ (by first | exact HBR.out | exact below_drewN HBR.out _ | exact HBR.out.drew)).mono ?_; rintro e w6 ⟨V, c, rfl, hb6, hL⟩
           have HB6 := Lib.hid hb6
           have HL6 := Lib.hid (hL w6 (Below.refl _ _))
           clear r0' r1 r2 r3
           obtain ⟨r0', r1, r2, r3⟩ := HCEL.out w6 hb6
           clear hb6 hL)
        | (go_at_call 22; refine HL6.out.mono ?_; rintro e w7 ⟨rfl, hb7⟩
           have HBa := Lib.hid hb7
           clear r0' r1 r2 r3
           obtain ⟨r0', r1, r2, r3⟩ := HCEL.out w7 hb7
           clear hb7 HL6 HB6))
    all_goals
      go_wp2_with fail
      go_meet
      case rel => exact ⟨rfl, HBa.out⟩
  case rest =>
  obtain ⟨rfl, hb9⟩ := hcut
  clear HBR
  have HBR := Lib.hid hb9
  clear hb9 r0' r1 r2 r3
  obtain ⟨r0', r1, r2, r3⟩ := HCEL.out wc HBR.out
  go_upto_region 60 with (fail)
  go_cut [38] from 225 to 337 (fun v wx => v = .bool true ∧ Below w1.heap.size w1 wx)
  case first =>
    go_region_held3 (fun w' => w'.cell? ⟨g3, re, none⟩ = some (.pointer (some ⟨p3, 0, none⟩)) ∧ w'.cell? ⟨p3, 0, none⟩ = some (.slice D2.a1 L3.doc.book.length D2.c1) ∧ w'.cell? ⟨p3, 1, none⟩ = some (.slice D2.a2 L3.doc.marks.length D2.c2) ∧ w'.cell? ⟨p3, 2, none⟩ = some (.slice D2.a3 L3.doc.known.length D2.c3))
      (first | go_keep | (refine ⟨?_, ?_, ?_, ?_⟩ <;> assumption))
      (first
        | (go_at_call 13; refine (HDC.out _ (by first | exact HBR.out | exact below_drewN HBR.out _ | exact HBR.out.drew)).mono ?_; rintro e w6 ⟨rfl, hw⟩
           obtain rfl := hw.symm)
        | (go_at_call 25; refine (HMA.out _ (by first | exact HBR.out | exact below_drewN HBR.out _ | exact HBR.out.drew)).mono ?_; rintro e w6 ⟨V, c, rfl, hb6, hL⟩
           have HB6 := Lib.hid hb6
           have HL6 := Lib.hid (hL w6 (Below.refl _ _))
           clear r0' r1 r2 r3
           obtain ⟨r0', r1, r2, r3⟩ := HCEL.out w6 hb6
           clear hb6 hL)
        | (go_at_call 24; refine HL6.out.mono ?_; rintro e w7 ⟨rfl, hb7⟩
           have HBa := Lib.hid hb7
           clear r0' r1 r2 r3
           obtain ⟨r0', r1, r2, r3⟩ := HCEL.out w7 hb7
           clear hb7 HL6 HB6))
    all_goals
      go_wp2_with fail
      go_meet
      case rel => exact ⟨rfl, HBa.out⟩
  case rest =>
  obtain ⟨rfl, hb9⟩ := hcut
  clear HBR
  have HBR := Lib.hid hb9
  clear hb9 r0' r1 r2 r3
  obtain ⟨r0', r1, r2, r3⟩ := HCEL.out wc HBR.out
  go_upto_region 61 with (fail)
  go_cut [39] from 225 to 337 (fun v wx => v = .bool true ∧ Below w1.heap.size w1 wx)
  case first =>
    go_region_held3 (fun w' => w'.cell? ⟨g3, re, none⟩ = some (.pointer (some ⟨p3, 0, none⟩)) ∧ w'.cell? ⟨p3, 0, none⟩ = some (.slice D2.a1 L3.doc.book.length D2.c1) ∧ w'.cell? ⟨p3, 1, none⟩ = some (.slice D2.a2 L3.doc.marks.length D2.c2) ∧ w'.cell? ⟨p3, 2, none⟩ = some (.slice D2.a3 L3.doc.known.length D2.c3))
      (first | go_keep | (refine ⟨?_, ?_, ?_, ?_⟩ <;> assumption))
      (first
        | (go_at_call 13; refine (HDC.out _ (by first | exact HBR.out | exact below_drewN HBR.out _ | exact HBR.out.drew)).mono ?_; rintro e w6 ⟨rfl, hw⟩
           obtain rfl := hw.symm)
        | (go_at_call 27; refine (HKN.out _ (by first | exact HBR.out | exact below_drewN HBR.out _ | exact HBR.out.drew)).mono ?_; rintro e w6 ⟨V, c, rfl, hb6, hL⟩
           have HB6 := Lib.hid hb6
           have HL6 := Lib.hid (hL w6 (Below.refl _ _))
           clear r0' r1 r2 r3
           obtain ⟨r0', r1, r2, r3⟩ := HCEL.out w6 hb6
           clear hb6 hL)
        | (go_at_call 26; refine HL6.out.mono ?_; rintro e w7 ⟨rfl, hb7⟩
           have HBa := Lib.hid hb7
           clear r0' r1 r2 r3
           obtain ⟨r0', r1, r2, r3⟩ := HCEL.out w7 hb7
           clear hb7 HL6 HB6))
    all_goals
      go_wp2_with fail
      go_meet
      case rel => exact ⟨rfl, HBa.out⟩
  case rest =>
  obtain ⟨rfl, hb9⟩ := hcut
  clear HBR
  have HBR := Lib.hid hb9
  clear hb9 r0' r1 r2 r3
  obtain ⟨r0', r1, r2, r3⟩ := HCEL.out wc HBR.out
  have z0 := HCK.out _ HBR.out
  go_upto_region 62 with (fail)
  go_cut [329] from 225 to 337 (fun v wx => v = .bool false ∧ Below w1.heap.size w1 wx)
  case first =>
    go_region_held3 (fun w' => w'.cell? ⟨g2, re, none⟩ = some (.int .i64 (pk : Nat)))
      (first | go_keep | assumption)
      (first
        | (go_at_call 15; refine (HBY.out _ (by first | exact HBR.out | exact below_drewN HBR.out _ | exact HBR.out.drew)).mono ?_; rintro e w6 ⟨rfl, hw⟩
           obtain rfl := hw.symm)
        | (go_at_call 16; refine (HSF.out _ (by first | exact HBR.out | exact below_drewN HBR.out _ | exact HBR.out.drew)).mono ?_; rintro e w6 ⟨rfl, hw⟩
           obtain rfl := hw.symm))
    all_goals
      go_wp2_with fail
      go_meet
      case rel => exact ⟨rfl, by first | exact HBR.out | exact below_drewN HBR.out _ | exact HBR.out.drew⟩
  case rest =>
  obtain ⟨rfl, hb9⟩ := hcut
  have HK9 := Lib.hid (HCUT.out.step hb9)
  clear hb9 HCUT HTW HDC HDO HBR HBO HMA HKN HCEL HBY HSF HCK r0' r1 r2 r3 z0
  go_wp2_with fail
  exact HQ.out.use HK9
end lawLogKeepsCr
end Go.Proofs.YthfbjfocmnikaaaGreatDoor

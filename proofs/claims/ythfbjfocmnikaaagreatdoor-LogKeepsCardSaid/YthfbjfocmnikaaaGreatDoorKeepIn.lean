/- leaflaw3.LogKeeps, one op: to a copy of the reference's document, and to the log. Conditions: none of our own. -/
import Derived.Deep.CutBlock
import Derived.Deep.RegionHeld3
import Derived.Test.YthfbjfocmnikaaaGreatDoorCard
import Derived.Test.YthfbjfocmnikaaaGreatDoorKeepSc2
import Derived.Test.YthfbjfocmnikaaaGreatDoorTold
namespace Go.Proofs.YthfbjfocmnikaaaGreatDoor
open Go.RowKit
set_option linter.unusedVariables false
namespace lawLogKeeps
theorem elemDP : Elem Tryz.prog 43 41 1 8 := Elem.mk_ (z := .pointer none) Tryz.underlying43 (by kernel_rfl) rfl (by decide)
/-- An op of the row, and what is done with it. -/
structure OpHere (w : World) (B b : Nat) (A : Option Addr) (a : Nat) (o : LOp) (ad : Addr) (who nn what : Int) (p : ByteArray) (letter : Int) (ya : Option Addr) (sl yc : Nat) : Prop where
  at_ : A = some ad
  cells : ∀ W, Below w.heap.size w W → W.cell? (ad.add (a * 6)) = some (.int .i64 who) ∧ W.cell? ⟨(ad.add (a * 6)).block, (ad.add (a * 6)).off + 1, none⟩ = some (.int .i64 nn) ∧ W.cell? ⟨(ad.add (a * 6)).block, (ad.add (a * 6)).off + 2, none⟩ = some (.int .i64 what) ∧
    W.cell? ⟨(ad.add (a * 6)).block, (ad.add (a * 6)).off + 3, none⟩ = some (.string p) ∧ W.cell? ⟨(ad.add (a * 6)).block, (ad.add (a * 6)).off + 4, none⟩ = some (.int .i64 letter) ∧ W.cell? ⟨(ad.add (a * 6)).block, (ad.add (a * 6)).off + 5, none⟩ = some (.slice ya sl yc)
  apply : ∀ {L l n A1 c1 A2 c2 q st W}, KTwo w B b L l n A1 c1 A2 c2 q st W → st.Ok → Says st.ops st → Calls Tryz.prog 20 #[.pointer (some ⟨q, 0, none⟩), .agg #[.int .i64 who, .int .i64 nn, .int .i64 what, .string p, .int .i64 letter, .slice ya sl yc]] W
    (fun e w' => e = .returned (.tuple #[.bool (st.applyB o), .int .i64 (st.applyE o)]) ∧ KTwo w B b L l n A1 c1 A2 c2 q (st.apply o) w')
  put : ∀ {L l n A1 c1 A2 c2 q st W}, KTwo w B b L l n A1 c1 A2 c2 q st W → Calls Tryz.prog 10 #[.pointer (some ⟨b, 0, none⟩), .agg #[.int .i64 who, .int .i64 nn, .int .i64 what, .string p, .int .i64 letter, .slice ya sl yc]] W
    (fun e w' => e = .returned (.tuple #[.bool (L.putB o), errV (L.putE o)]) ∧ KTwo w B b (L.put o) l n A1 c1 A2 c2 q st w')
theorem op_here {w : World} {A : Option Addr} {ys : List OpAt} (hr : Reads w w.heap.size 6 A ys.length (ocells ys)) (hg : ∀ y ∈ ys, y.Good w) {a : Nat} (ha : a < ys.length) (B b : Nat) :
    ∃ o ad who nn what p letter ya sl yc, OpHere w B b A a o ad who nn what p letter ya sl yc := by
  obtain ⟨ad, rfl, _⟩ := hr.op ha
  have hG := hg _ (List.getElem_mem ha)
  have hps := hG.2.1
  unfold maxLen at hps
  refine ⟨ys[a].op, ad, ys[a].op.dot.who, ys[a].op.dot.n, ys[a].op.what, ys[a].op.place, ys[a].op.letter, ys[a].at_, ys[a].op.seen.length, ys[a].cap, rfl, fun W hW => ?_, fun h ok hs => ?_, fun h => ?_⟩
  · obtain ⟨ad', e', _, hh⟩ := (hr.below hW).op ha
    injection e' with e'
    subst e'
    exact hh
  · exact h.apply ok hs ys[a].op ys[a].at_ ys[a].cap hps hG.1
  · exact h.put ys[a].op ys[a].at_ ys[a].cap hps hG.1
/-- Where the code stands at region n, inside loops too. -/
def headAt (n : Nat) : Code → Bool
  | .region k _ _ => k == n
  | .seq a _ => headAt n a
  | _ => false
def fromAt (n : Nat) : Code → Option Code
  | .seq a b => if headAt n a then some (.seq a b) else match fromAt n a with
    | some c => some c
    | none => fromAt n b
  | .block _ c => fromAt n c
  | .loop c => fromAt n c
  | .scope c => fromAt n c
  | _ => none
/-- What a round leaves, whatever its scratch holds. -/
def InnerQ (w : World) (B b r k a : Nat) (p0 p1 p2 p3 : Value) (Q : Exit → Act → World → Prop) : Prop :=
  ∀ (n3 : Nat) (L3 : LLog) (A3 : Option Addr) (c3 : Nat) (A4 : Option Addr) (c4 : Nat) (wx : World) (v4 v5 v6 v7 v8 v9 v10 v11 v12 v13 v14 v15 v22 v23 v24 v25 v26 v27 v28 v29 v30 v31 v32 v33 v34 v35 v36 v37 v38 v39 v40 v41 v42 v43 v44 v45 v46 v47 v48 v49 v50 v51 v52 v53 v54 v55 v56 v57 v58 v59 v60 v61 v62 v63 v64 v65 v66 v67 v68 v69 v70 v71 v72 v73 v74 v75 v76 v77 v78 v79 v80 v81 v82 v83 v84 v85 v86 v87 v88 v89 v90 v91 v92 v93 v94 v95 v96 v97 v98 v99 v100 v101 v102 v103 v104 v105 v106 v107 v108 v109 v110 v111 v112 v113 v114 v115 v116 v117 v118 v119 v120 v121 v122 v123 v124 v125 v126 v127 v128 v129 v130 v131 v132 v133 v134 v135 v136 v137 v138 v139 v140 v141 v142 v143 v144 v145 v146 v147 v148 v149 v150 v151 v152 v153 v154 v155 v156 v157 v158 v159 v160 v161 v162 v163 v164 v165 v166 v167 v168 v169 v170 v171 v172 v173 v174 v175 v176 v177 v178 v179 v180 v181 v182 v183 v184 v185 v186 v187 v188 v189 v190 v191 v192 v193 v194 v195 v196 v197 v198 v199 v200 v201 v202 v203 v204 v205 v206 v207 v208 v209 v210 v211 v212 v213 v214 v215 v216 v217 v218 v219 v220 v221 v222 v223 v224 v225 v226 v227 v228 v229 v230 v231 v232 v233 v234 v235 v236 v237 v238 v239 v240 v241 v242 v243 v244 v245 v246 v247 v248 v249 v250 v251 v252 v253 v254 v255 v256 v257 v258 v259 v260 v261 v262 v263 v264 v265 v266 v267 v268 v269 v270 v271 v272 v273 v274 v275 v276 v277 v278 v279 v280 v281 v282 v283 v284 v285 v286 v287 v288 v289 v290 v291 v292 v293 v294 v295 v296 v297 v298 v299 v300 v301 v302 v303 v304 v305 v306 v307 v308 v309 v310 v311 v312 v313 v314 v315 v316 v317 v318 v319 v320 v321 v322 v323 v324 v325 v326 v327 v328 v329 v330 v331 v332 v333 v334 v335 v336 v337 : Value), Hid (KAt w B b L3 L3.kept n3 A3 c3 A4 c4 wx) → Q .normal ⟨#[p0, p1, p2, p3, v4, v5, v6, v7, v8, v9, v10, v11, v12, v13, v14, v15, .pointer (some ⟨b, 0, none⟩), .slice A3 (n3 + 1) c3, .slice A4 (n3 + 1) c4, .int .i64 ((a : Nat) + 1), .int .i64 (r : Nat), .int .i64 (k : Nat), v22, v23, v24, v25, v26, v27, v28, v29, v30, v31, v32, v33, v34, v35, v36, v37, v38, v39, v40, v41, v42, v43, v44, v45, v46, v47, v48, v49, v50, v51, v52, v53, v54, v55, v56, v57, v58, v59, v60, v61, v62, v63, v64, v65, v66, v67, v68, v69, v70, v71, v72, v73, v74, v75, v76, v77, v78, v79, v80, v81, v82, v83, v84, v85, v86, v87, v88, v89, v90, v91, v92, v93, v94, v95, v96, v97, v98, v99, v100, v101, v102, v103, v104, v105, v106, v107, v108, v109, v110, v111, v112, v113, v114, v115, v116, v117, v118, v119, v120, v121, v122, v123, v124, v125, v126, v127, v128, v129, v130, v131, v132, v133, v134, v135, v136, v137, v138, v139, v140, v141, v142, v143, v144, v145, v146, v147, v148, v149, v150, v151, v152, v153, v154, v155, v156, v157, v158, v159, v160, v161, v162, v163, v164, v165, v166, v167, v168, v169, v170, v171, v172, v173, v174, v175, v176, v177, v178, v179, v180, v181, v182, v183, v184, v185, v186, v187, v188, v189, v190, v191, v192, v193, v194, v195, v196, v197, v198, v199, v200, v201, v202, v203, v204, v205, v206, v207, v208, v209, v210, v211, v212, v213, v214, v215, v216, v217, v218, v219, v220, v221, v222, v223, v224, v225, v226, v227, v228, v229, v230, v231, v232, v233, v234, v235, v236, v237, v238, v239, v240, v241, v242, v243, v244, v245, v246, v247, v248, v249, v250, v251, v252, v253, v254, v255, v256, v257, v258, v259, v260, v261, v262, v263, v264, v265, v266, v267, v268, v269, v270, v271, v272, v273, v274, v275, v276, v277, v278, v279, v280, v281, v282, v283, v284, v285, v286, v287, v288, v289, v290, v291, v292, v293, v294, v295, v296, v297, v298, v299, v300, v301, v302, v303, v304, v305, v306, v307, v308, v309, v310, v311, v312, v313, v314, v315, v316, v317, v318, v319, v320, v321, v322, v323, v324, v325, v326, v327, v328, v329, v330, v331, v332, v333, v334, v335, v336, v337], []⟩ wx
theorem InnerQ.use {w : World} {B b r k a : Nat} {p0 p1 p2 p3 : Value} {Q : Exit → Act → World → Prop} (h : InnerQ w B b r k a p0 p1 p2 p3 Q) {n3 : Nat} {L3 : LLog} {A3 : Option Addr} {c3 : Nat} {A4 : Option Addr} {c4 : Nat} {wx : World} {v4 v5 v6 v7 v8 v9 v10 v11 v12 v13 v14 v15 v22 v23 v24 v25 v26 v27 v28 v29 v30 v31 v32 v33 v34 v35 v36 v37 v38 v39 v40 v41 v42 v43 v44 v45 v46 v47 v48 v49 v50 v51 v52 v53 v54 v55 v56 v57 v58 v59 v60 v61 v62 v63 v64 v65 v66 v67 v68 v69 v70 v71 v72 v73 v74 v75 v76 v77 v78 v79 v80 v81 v82 v83 v84 v85 v86 v87 v88 v89 v90 v91 v92 v93 v94 v95 v96 v97 v98 v99 v100 v101 v102 v103 v104 v105 v106 v107 v108 v109 v110 v111 v112 v113 v114 v115 v116 v117 v118 v119 v120 v121 v122 v123 v124 v125 v126 v127 v128 v129 v130 v131 v132 v133 v134 v135 v136 v137 v138 v139 v140 v141 v142 v143 v144 v145 v146 v147 v148 v149 v150 v151 v152 v153 v154 v155 v156 v157 v158 v159 v160 v161 v162 v163 v164 v165 v166 v167 v168 v169 v170 v171 v172 v173 v174 v175 v176 v177 v178 v179 v180 v181 v182 v183 v184 v185 v186 v187 v188 v189 v190 v191 v192 v193 v194 v195 v196 v197 v198 v199 v200 v201 v202 v203 v204 v205 v206 v207 v208 v209 v210 v211 v212 v213 v214 v215 v216 v217 v218 v219 v220 v221 v222 v223 v224 v225 v226 v227 v228 v229 v230 v231 v232 v233 v234 v235 v236 v237 v238 v239 v240 v241 v242 v243 v244 v245 v246 v247 v248 v249 v250 v251 v252 v253 v254 v255 v256 v257 v258 v259 v260 v261 v262 v263 v264 v265 v266 v267 v268 v269 v270 v271 v272 v273 v274 v275 v276 v277 v278 v279 v280 v281 v282 v283 v284 v285 v286 v287 v288 v289 v290 v291 v292 v293 v294 v295 v296 v297 v298 v299 v300 v301 v302 v303 v304 v305 v306 v307 v308 v309 v310 v311 v312 v313 v314 v315 v316 v317 v318 v319 v320 v321 v322 v323 v324 v325 v326 v327 v328 v329 v330 v331 v332 v333 v334 v335 v336 v337 : Value} (hk : Hid (KAt w B b L3 L3.kept n3 A3 c3 A4 c4 wx)) : Q .normal ⟨#[p0, p1, p2, p3, v4, v5, v6, v7, v8, v9, v10, v11, v12, v13, v14, v15, .pointer (some ⟨b, 0, none⟩), .slice A3 (n3 + 1) c3, .slice A4 (n3 + 1) c4, .int .i64 ((a : Nat) + 1), .int .i64 (r : Nat), .int .i64 (k : Nat), v22, v23, v24, v25, v26, v27, v28, v29, v30, v31, v32, v33, v34, v35, v36, v37, v38, v39, v40, v41, v42, v43, v44, v45, v46, v47, v48, v49, v50, v51, v52, v53, v54, v55, v56, v57, v58, v59, v60, v61, v62, v63, v64, v65, v66, v67, v68, v69, v70, v71, v72, v73, v74, v75, v76, v77, v78, v79, v80, v81, v82, v83, v84, v85, v86, v87, v88, v89, v90, v91, v92, v93, v94, v95, v96, v97, v98, v99, v100, v101, v102, v103, v104, v105, v106, v107, v108, v109, v110, v111, v112, v113, v114, v115, v116, v117, v118, v119, v120, v121, v122, v123, v124, v125, v126, v127, v128, v129, v130, v131, v132, v133, v134, v135, v136, v137, v138, v139, v140, v141, v142, v143, v144, v145, v146, v147, v148, v149, v150, v151, v152, v153, v154, v155, v156, v157, v158, v159, v160, v161, v162, v163, v164, v165, v166, v167, v168, v169, v170, v171, v172, v173, v174, v175, v176, v177, v178, v179, v180, v181, v182, v183, v184, v185, v186, v187, v188, v189, v190, v191, v192, v193, v194, v195, v196, v197, v198, v199, v200, v201, v202, v203, v204, v205, v206, v207, v208, v209, v210, v211, v212, v213, v214, v215, v216, v217, v218, v219, v220, v221, v222, v223, v224, v225, v226, v227, v228, v229, v230, v231, v232, v233, v234, v235, v236, v237, v238, v239, v240, v241, v242, v243, v244, v245, v246, v247, v248, v249, v250, v251, v252, v253, v254, v255, v256, v257, v258, v259, v260, v261, v262, v263, v264, v265, v266, v267, v268, v269, v270, v271, v272, v273, v274, v275, v276, v277, v278, v279, v280, v281, v282, v283, v284, v285, v286, v287, v288, v289, v290, v291, v292, v293, v294, v295, v296, v297, v298, v299, v300, v301, v302, v303, v304, v305, v306, v307, v308, v309, v310, v311, v312, v313, v314, v315, v316, v317, v318, v319, v320, v321, v322, v323, v324, v325, v326, v327, v328, v329, v330, v331, v332, v333, v334, v335, v336, v337], []⟩ wx := by
  unfold InnerQ at h
  apply h
  exact hk
noncomputable def innerCode : Code := ((Tryz.f3.body.bind (fromAt 25)).getD .skip)
set_option maxRecDepth 100000 in
set_option maxHeartbeats 16000000 in
theorem inner (w wc : World) (hglob : Glob w) (A : Option Addr) (cA : Nat) (ys : List OpAt) (hr : Reads w w.heap.size 6 A ys.length (ocells ys)) (hg : ∀ y ∈ ys, y.Good w) (hnl : ys.length ≤ 9223372036854775807)
    {B1 : Option Addr} {d1 : Nat} {sy : List Int} {B2 : Option Addr} {d2 : Nat} {fl : List Int} {B3 : Option Addr} {d3 : Nat} {kp : List Int} (B b r k a n : Nat) (g2 : a < ys.length) (L : LLog) (A1 : Option Addr) (c1 : Nat) (A2 : Option Addr) (c2 : Nat) (HK : Hid (KAt w B b L L.kept n A1 c1 A2 c2 wc))
    {u4 u5 u6 u7 u8 u9 u10 u11 u12 u13 u14 u15 u22 u23 u24 u25 u26 u27 u28 u29 u30 u31 u32 u33 u34 u35 u36 u37 u38 u39 u40 u41 u42 u43 u44 u45 u46 u47 u48 u49 u50 u51 u52 u53 u54 u55 u56 u57 u58 u59 u60 u61 u62 u63 u64 u65 u66 u67 u68 u69 u70 u71 u72 u73 u74 u75 u76 u77 u78 u79 u80 u81 u82 u83 u84 u85 u86 u87 u88 u89 u90 u91 u92 u93 u94 u95 u96 u97 u98 u99 u100 u101 u102 u103 u104 u105 u106 u107 u108 u109 u110 u111 u112 u113 u114 u115 u116 u117 u118 u119 u120 u121 u122 u123 u124 u125 u126 u127 u128 u129 u130 u131 u132 u133 u134 u135 u136 u137 u138 u139 u140 u141 u142 u143 u144 u145 u146 u147 u148 u149 u150 u151 u152 u153 u154 u155 u156 u157 u158 u159 u160 u161 u162 u163 u164 u165 u166 u167 u168 u169 u170 u171 u172 u173 u174 u175 u176 u177 u178 u179 u180 u181 u182 u183 u184 u185 u186 u187 u188 u189 u190 u191 u192 u193 u194 u195 u196 u197 u198 u199 u200 u201 u202 u203 u204 u205 u206 u207 u208 u209 u210 u211 u212 u213 u214 u215 u216 u217 u218 u219 u220 u221 u222 u223 u224 u225 u226 u227 u228 u229 u230 u231 u232 u233 u234 u235 u236 u237 u238 u239 u240 u241 u242 u243 u244 u245 u246 u247 u248 u249 u250 u251 u252 u253 u254 u255 u256 u257 u258 u259 u260 u261 u262 u263 u264 u265 u266 u267 u268 u269 u270 u271 u272 u273 u274 u275 u276 u277 u278 u279 u280 u281 u282 u283 u284 u285 u286 u287 u288 u289 u290 u291 u292 u293 u294 u295 u296 u297 u298 u299 u300 u301 u302 u303 u304 u305 u306 u307 u308 u309 u310 u311 u312 u313 u314 u315 u316 u317 u318 u319 u320 u321 u322 u323 u324 u325 u326 u327 u328 u329 u330 u331 u332 u333 u334 u335 u336 u337 : Value} (Q : Exit → Act → World → Prop)
    (hq : InnerQ w B b r k a (.slice A ys.length cA) (.slice B1 sy.length d1) (.slice B2 fl.length d2) (.slice B3 kp.length d3) Q) :
    Code.wp Tryz.prog innerCode Q ⟨#[.slice A ys.length cA, .slice B1 sy.length d1, .slice B2 fl.length d2, .slice B3 kp.length d3, u4, u5, u6, u7, u8, u9, u10, u11, u12, u13, u14, u15, .pointer (some ⟨b, 0, none⟩), .slice A1 (n + 1) c1, .slice A2 (n + 1) c2, .int .i64 (a : Nat), .int .i64 (r : Nat), .int .i64 (k : Nat), u22, u23, u24, u25, u26, u27, u28, u29, u30, u31, u32, u33, u34, u35, u36, u37, u38, u39, u40, u41, u42, u43, u44, u45, u46, u47, u48, u49, u50, u51, u52, u53, u54, u55, u56, u57, u58, u59, u60, u61, u62, u63, u64, u65, u66, u67, u68, u69, u70, u71, u72, u73, u74, u75, u76, u77, u78, u79, u80, u81, u82, u83, u84, u85, u86, u87, u88, u89, u90, u91, u92, u93, u94, u95, u96, u97, u98, u99, u100, u101, u102, u103, u104, u105, u106, u107, u108, u109, u110, u111, u112, u113, u114, u115, u116, u117, u118, u119, u120, u121, u122, u123, u124, u125, u126, u127, u128, u129, u130, u131, u132, u133, u134, u135, u136, u137, u138, u139, u140, u141, u142, u143, u144, u145, u146, u147, u148, u149, u150, u151, u152, u153, u154, u155, u156, u157, u158, u159, u160, u161, u162, u163, u164, u165, u166, u167, u168, u169, u170, u171, u172, u173, u174, u175, u176, u177, u178, u179, u180, u181, u182, u183, u184, u185, u186, u187, u188, u189, u190, u191, u192, u193, u194, u195, u196, u197, u198, u199, u200, u201, u202, u203, u204, u205, u206, u207, u208, u209, u210, u211, u212, u213, u214, u215, u216, u217, u218, u219, u220, u221, u222, u223, u224, u225, u226, u227, u228, u229, u230, u231, u232, u233, u234, u235, u236, u237, u238, u239, u240, u241, u242, u243, u244, u245, u246, u247, u248, u249, u250, u251, u252, u253, u254, u255, u256, u257, u258, u259, u260, u261, u262, u263, u264, u265, u266, u267, u268, u269, u270, u271, u272, u273, u274, u275, u276, u277, u278, u279, u280, u281, u282, u283, u284, u285, u286, u287, u288, u289, u290, u291, u292, u293, u294, u295, u296, u297, u298, u299, u300, u301, u302, u303, u304, u305, u306, u307, u308, u309, u310, u311, u312, u313, u314, u315, u316, u317, u318, u319, u320, u321, u322, u323, u324, u325, u326, u327, u328, u329, u330, u331, u332, u333, u334, u335, u336, u337], []⟩ wc := by
  have HGL := Lib.hid hglob
  have HR := Lib.hid hr
  have HG := Lib.hid hg
  have HE0 : errV 0 = .nilIface := rfl
  have HER := Lib.hid (fun W k e (hb : Below w.heap.size w W) => error_any W k e (HGL.out.below hb (Nat.le_refl _)))
  have HQ := Lib.hid hq
  have k2 : (a : Int) < (ys.length : Int) := by omega
  have k0 : (0 : Int) ≤ (a : Int) := by omega
  clear hglob hr hg hq
  conv => arg 2; whnf
  obtain ⟨g, p, e1, hc, hcp⟩ := HK.out.last
  have HCP := Lib.hid hcp
  have c0 := hc _ (Below.refl _ _)
  obtain ⟨o, ad, who, nn, what, pl, letter, ya, sl, yc, hop⟩ := op_here HR.out HG.out g2 B b
  have HOP := Lib.hid hop
  have hA := hop.at_
  have HOK := Lib.hid (HK.out.ok)
  have HSAY := Lib.hid (LLog.says L)
  subst e1
  clear hc hcp hop
  subst hA
  have n0 : (0 : Int) ≤ (n : Int) := by omega
  have n4 : (n : Int) ≤ 400 := by have := HK.out.len; have := HK.out.ok.kept_few; omega
  go_wp2_with fail
  refine HCP.out.mono ?_
  rintro e w3 ⟨q, rfl, h3⟩
  have HT3 := Lib.hid h3
  have HBY := Lib.hid h3.bytes
  obtain ⟨m1, hm1⟩ : ∃ m1, m1 = L.m := ⟨_, rfl⟩
  rw [← hm1] at HBY
  have HM1 := Lib.hid hm1
  clear h3 HCP c0 hm1
  go_wp2_with fail
  refine HBY.out.mono ?_
  rintro e w4 ⟨rfl, hw⟩
  obtain rfl := hw.symm
  clear hw HBY
  have HAP := Lib.hid (HOP.out.apply HT3.out HOK.out.doc_ok HSAY.out)
  obtain ⟨is, his⟩ : ∃ is, is = L.doc.applyB o := ⟨_, rfl⟩
  obtain ⟨ke, hke⟩ : ∃ ke, ke = L.doc.applyE o := ⟨_, rfl⟩
  rw [← his, ← hke] at HAP
  have HIS := Lib.hid his
  have HKE := Lib.hid hke
  clear his hke
  obtain ⟨e0, e1, e2, e3, e4, e5⟩ := HOP.out.cells _ HT3.out.below
  go_wp2_with fail
  refine HAP.out.mono ?_
  rintro e w5 ⟨rfl, h5⟩
  have HT5 := Lib.hid h5
  have HPU := Lib.hid (HOP.out.put h5)
  obtain ⟨got, hgot⟩ : ∃ got, got = L.putB o := ⟨_, rfl⟩
  obtain ⟨E, hE⟩ : ∃ E, E = L.putE o := ⟨_, rfl⟩
  rw [← hgot, ← hE] at HPU
  have HGOT := Lib.hid hgot
  have HEE := Lib.hid hE
  clear h5 hgot hE HAP e0 e1 e2 e3 e4 e5
  obtain ⟨e0, e1, e2, e3, e4, e5⟩ := HOP.out.cells _ HT5.out.below
  go_wp2_with fail
  refine HPU.out.mono ?_
  rintro e w6 ⟨rfl, h6⟩
  have HT6 := Lib.hid h6
  have HR1 := Lib.hid (HER.out w6 E 6 h6.below)
  clear h6 HPU e0 e1 e2 e3 e4 e5 HT5 HT3
  go_wp2_with fail
  refine HR1.out.mono ?_
  rintro e w7 ⟨rfl, h7⟩
  have HT7 := Lib.hid (HT6.out.step h7)
  have HR2 := Lib.hid (HER.out w7 E ke HT7.out.below)
  clear h7 HR1 HT6
  go_wp2_with fail
  refine HR2.out.mono ?_
  rintro e w8 ⟨rfl, h8⟩
  have HT8 := Lib.hid (HT7.out.step h8)
  clear h8 HR2 HT7
  go_upto_region 32 with (fail)
  go_cut [190] from 113 to 224 (fun v wx => v = .bool false ∧ wx = w8)
  case first => 
    by_cases h6 : E = 6
    · have q1 : (E == 6) = true := by simpa using h6
      clear h6
      go_wp2_with fail
      go_meet
      case rel => exact ⟨rfl, rfl⟩
    · have q1 : (E == 6) = false := by simpa using h6
      obtain ⟨y1, y2⟩ := LLog.put_told (L := L) o (by rw [← HEE.out]; exact h6)
      have q2 : (E == ke) = true := by rw [HEE.out, HKE.out, y1]; simp
      have q3 : got = is := by rw [HGOT.out, HIS.out, y2]
      have HQ3 := Lib.hid q3
      clear h6 y1 y2 q3
      go_wp2_with fail
      go_meet
      case rel => exact ⟨by rw [HQ3.out]; simp, rfl⟩
  case rest =>
  obtain ⟨rfl, hw⟩ := hcut
  obtain rfl := hw.symm
  clear hw
  obtain ⟨T, hT⟩ : ∃ T : Bool, T = (decide (E = 0) && got) := ⟨_, rfl⟩
  have HT := Lib.hid hT
  clear hT
  go_upto_region 34 with (fail)
  go_cut [27, 195] from 113 to 224 (fun _ v wx => v = .bool T ∧ wx = w8)
  case first => 
    by_cases h0 : E = 0
    · have y : T = got := by rw [HT.out, decide_eq_true h0]; rfl
      have Y := Lib.hid y
      rw [show errV E = .nilIface by rw [h0]; rfl]
      clear h0 y
      go_wp2_with fail
      go_meet
      case rel => exact ⟨by rw [Y.out], rfl⟩
    · have y : T = false := by rw [HT.out, decide_eq_false h0]; rfl
      have Y := Lib.hid y
      rw [errV_ne h0]
      clear h0 y
      go_wp2_with fail
      go_meet
      case rel => exact ⟨by rw [Y.out], rfl⟩
  case rest =>
  obtain ⟨rfl, hw⟩ := hcut
  obtain rfl := hw.symm
  clear hw
  go_upto_if 195 with (fail)
  go_cut [17, 18] from 113 to 224 (fun d m wx => ∃ (n : Nat) (A1 : Option Addr) (c1 : Nat) (A2 : Option Addr) (c2 : Nat), d = .slice A1 (n + 1) c1 ∧ m = .slice A2 (n + 1) c2 ∧ Hid (KAt w B b (L.put o) (L.put o).kept n A1 c1 A2 c2 wx))
  case first => 
    cases T with
    | true =>
      have hh : E = 0 ∧ got = true := by have := HT.out; simpa using this.symm
      obtain ⟨y1, y2, y3, y4⟩ := HOK.out.put_took (o := o) (by rw [← HEE.out]; exact hh.1) (by rw [← HGOT.out]; exact hh.2)
      have HY1 := Lib.hid y1
      have HY3 : Hid (L.doc.apply o = LDoc.new.all (L.kept ++ [o])) := by show _ = _; rw [LDoc.all_app]; rfl
      have HBY := Lib.hid HT8.out.bytes
      obtain ⟨m2, hm2⟩ : ∃ m2, m2 = (L.put o).m := ⟨_, rfl⟩
      rw [← hm2] at HBY y4 y2
      rw [← HM1.out] at y2
      have q1 : ¬ (m2 : Int) < (m1 : Int) + 2 := by omega
      have HM2 := Lib.hid y4
      have q2 : m1 ≤ 1000000 := by rw [HM1.out]; have := HOK.out.m_small; omega
      have HMM := Lib.hid hm2
      clear hh y1 y2 y3 y4 hm2 HT
      go_wp2_with fail
      refine HBY.out.mono ?_
      rintro e w9 ⟨rfl, hw⟩
      obtain rfl := hw.symm
      clear hw HBY
      obtain ⟨hz, xs, hown, hnext⟩ := HT8.out.room
      have HZ := Lib.hid hz
      have HOWN := Lib.hid hown
      have HNX := Lib.hid hnext
      have hfew : n + 1 + 1 ≤ 1000000 := by have := HOK.out.kept_few; have := HK.out.len; omega
      have HFT := Lib.hid (Fits.of_small (bytes := 8) hfew (by decide))
      clear hz hown hnext hfew
      have HONE : Hid (OneCells [Value.pointer (some ⟨q, 0, none⟩)]) := fun u hu => by simp at hu; subst hu; rfl
      have HBS : Hid (B ≤ (w8.alloc (.cells #[.pointer (some ⟨q, 0, none⟩)] 41)).heap.size) := by show _ ≤ _; have := HZ.out; simp; omega
      go_upto_region 38 with (at_builtin; go_loud (refine wpList_app _ (.tmp 201) (.tmp 203) rfl rfl elemDP rfl rfl (HOWN.out.alloc _) (Reads.row w8 41 #[.pointer (some ⟨q, 0, none⟩)]) HONE.out HFT.out HBS.out ?_; intro A3 c3 w10 hO2 hL2 hX2))
      have HH := Lib.hid (HNX.out _ _ _ _ ((Below.refl _ _).alloc (Nat.le_refl _) _) hO2 hL2 hX2)
      clear hO2 hL2 hX2 HNX HOWN HZ HONE HBS
      have HBY := Lib.hid HH.out.bytes
      obtain ⟨hz, xs, hown, hnext⟩ := HH.out.room HY3.out HM2.out
      rw [← HMM.out] at HBY
      have HZ := Lib.hid hz
      have HOWN := Lib.hid hown
      have HNX := Lib.hid hnext
      clear hz hown hnext
      go_wp2_with fail
      refine HBY.out.mono ?_
      rintro e w11 ⟨rfl, hw⟩
      obtain rfl := hw.symm
      clear hw HBY
      have HBS : Hid (B ≤ (w10.alloc (.cells #[.int .i64 (m2 : Nat)] 3)).heap.size) := by show _ ≤ _; have := HZ.out; simp; omega
      have HONE : Hid (OneCells [Value.int .i64 (m2 : Nat)]) := fun u hu => by simp at hu; subst hu; rfl
      go_wp2_with (at_builtin; go_loud (refine wpList_app _ (.tmp 205) (.tmp 208) rfl rfl elemI rfl rfl (HOWN.out.alloc _) (Reads.row w10 3 #[.int .i64 (m2 : Nat)]) HONE.out HFT.out HBS.out ?_; intro A4 c4 w12 hO2 hL2 hX2))
      have HH2 := Lib.hid (HNX.out _ _ _ _ ((Below.refl _ _).alloc (Nat.le_refl _) _) hO2 hL2 hX2)
      clear hO2 hL2 hX2 HNX HOWN HZ
      go_meet
      case rel => exact ⟨n + 1, A3, c3, A4, c4, rfl, rfl, by rw [HY1.out]; exact HH2⟩
    | false =>
      have hh : ¬ (E = 0 ∧ got = true) := by have := HT.out; simpa using this.symm
      have y1 := HOK.out.put_not (o := o) (by rw [← HEE.out, ← HGOT.out]; exact hh)
      have HK8 : Hid (KAt w B b (L.put o) (L.put o).kept n (some ⟨g, 0, none⟩) c1 A2 c2 w8) := by show KAt _ _ _ _ _ _ _ _ _ _ _; rw [y1]; exact HT8.out.drop
      clear hh y1
      go_wp2_with fail
      go_meet
      case rel => exact ⟨n, _, _, _, _, rfl, rfl, HK8⟩
  case rest =>
  obtain ⟨n3, A3, c3, A4, c4, rfl, rfl, HK3⟩ := hcut
  clear HT8 HT HEE HGOT HIS HKE HM1 HK HOP HOK HSAY
  generalize L.put o = L3 at *
  obtain ⟨g3, p3, bd, S1, S2, D1, D2, e1, hc3, htw, hdc⟩ := HK3.out.twin (Nat.le_refl _) (by rw [HK3.out.len, List.take_length]; rfl)
  subst e1
  have HC3 := Lib.hid hc3
  have HTW := Lib.hid htw
  have HDC := Lib.hid hdc
  have HDO := Lib.hid (HK3.out.ok.doc_ok)
  have n3p : (0 : Int) ≤ (n3 : Int) := by omega
  have n3w : IntKind.i64.wrap (n3 : Int) = (n3 : Int) := IntWalk.i64_in _ (by have := HK3.out.len; have := HK3.out.ok.kept_few; omega)
  have n34 : (n3 : Int) ≤ 400 := by have := HK3.out.len; have := HK3.out.ok.kept_few; omega
  have HBR : Hid (Below wc.heap.size wc wc) := Below.refl _ _
  clear hc3 htw hdc
  have HBO := Lib.hid (fun W hb => HTW.out.books HDO.out W hb)
  have HCEL : Hid (∀ W, Below wc.heap.size wc W → W.cell? ⟨g3, n3, none⟩ = some (.pointer (some ⟨p3, 0, none⟩)) ∧ W.cell? ⟨p3, 0, none⟩ = some (.slice D2.a1 L3.doc.book.length D2.c1)) := fun W hW => ⟨HC3.out W hW, (HTW.out.rcells W hW).1⟩
  obtain ⟨r0, r1⟩ := HCEL.out wc HBR.out
  clear HC3
  obtain ⟨qq, hqq⟩ : ∃ qq, qq = n3 + 1 := ⟨_, rfl⟩
  rw [← hqq]
  have qq1 : IntKind.i64.wrap ((qq : Int) - 1) = (n3 : Int) := by rw [IntWalk.i64_in _ (by omega)]; omega
  have qq2 : (n3 : Int) + 1 ≤ (qq : Int) := by omega
  have qq3 : (n3 : Int) < (qq : Int) := by omega
  have HQQ := Lib.hid hqq
  clear hqq
  go_upto_region 39 with (fail)
  go_cut [30] from 113 to 224 (fun v wx => v = .bool true ∧ Below wc.heap.size wc wx)
  case first => 
    go_region_held3 (fun w' => w'.cell? ⟨g3, n3, none⟩ = some (.pointer (some ⟨p3, 0, none⟩)) ∧ w'.cell? ⟨p3, 0, none⟩ = some (.slice D2.a1 L3.doc.book.length D2.c1))
      (first | go_keep | (refine ⟨?_, ?_⟩ <;> assumption))
      (first
        | (go_at_call 13; refine (HDC.out _ (by first | exact HBR.out | exact below_drewN HBR.out _ | exact HBR.out.drew)).mono ?_; rintro e w6 ⟨rfl, hw⟩
           obtain rfl := hw.symm)
        | (go_at_call 23; refine (HBO.out _ (by first | exact HBR.out | exact below_drewN HBR.out _ | exact HBR.out.drew)).mono ?_; rintro e w6 ⟨V, c, rfl, hb6, hL⟩
           have HB6 := Lib.hid hb6
           have HL6 := Lib.hid (hL w6 (Below.refl _ _))
           clear r0 r1
           obtain ⟨r0, r1⟩ := HCEL.out w6 hb6
           clear hb6 hL)
        | (go_at_call 22; refine HL6.out.mono ?_; rintro e w7 ⟨rfl, hb7⟩
           have HBa := Lib.hid hb7
           clear r0 r1
           obtain ⟨r0, r1⟩ := HCEL.out w7 hb7
           clear hb7 HL6 HB6))
    all_goals
      go_wp2_with fail
      go_meet
      case rel => exact ⟨rfl, HBa.out⟩
  case rest =>
  obtain ⟨rfl, hb9⟩ := hcut
  have HK9 := Lib.hid (HK3.out.step hb9)
  clear hb9 HK3 HTW HDC HDO HBR HBO HCEL r0 r1
  go_wp2_with fail
  have hqq := HQQ.out
  subst hqq
  exact HQ.out.use HK9
end lawLogKeeps
end Go.Proofs.YthfbjfocmnikaaaGreatDoor

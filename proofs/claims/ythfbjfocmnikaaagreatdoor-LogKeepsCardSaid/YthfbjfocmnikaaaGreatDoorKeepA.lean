/- leaflaw3.LogKeeps, its first part: one op that is safe, one that is not. Conditions: none of our own. -/
import Derived.Deep.CutBlock
import Derived.Deep.RegionHeld3
import Derived.Test.YthfbjfocmnikaaaGreatDoorCard
import Derived.Test.YthfbjfocmnikaaaGreatDoorKeepSc2
import Derived.Test.YthfbjfocmnikaaaGreatDoorTold
namespace Go.Proofs.YthfbjfocmnikaaaGreatDoor
open Go.RowKit
set_option linter.unusedVariables false
namespace lawLogKeepsA
def o1 : LOp := ⟨⟨1, 1⟩, 1, ⟨#[110, 98]⟩, 104, []⟩
def o2 : LOp := ⟨⟨1, 2⟩, 1, ⟨#[111, 98]⟩, 104, []⟩
theorem facts : LLog.new.putE o1 = 0 ∧ LLog.new.putB o1 = true ∧ (LLog.new.put o1).syncE = 0 ∧ ((LLog.new.put o1).sync).putE o2 = 0 ∧ textOf ((((LLog.new.put o1).sync).put o2).crash 0).doc.book = ⟨#[104]⟩ := by decide +kernel
/-- Where the code stands at region n. -/
def headAt (n : Nat) : Code → Bool
  | .region k _ _ => k == n
  | .seq a _ => headAt n a
  | _ => false
def fromAt (n : Nat) : Code → Option Code
  | .seq a b => if headAt n a then some (.seq a b) else match fromAt n a with
    | some c => some c
    | none => fromAt n b
  | .block _ c => fromAt n c
  | .loop c => fromAt n c
  | .scope c => fromAt n c
  | _ => none
noncomputable def tailCode : Code := ((Tryz.f3.body.bind (fromAt 11)).getD .skip)
/-- What is left of the law behind its first part, whatever the other slots hold. -/
def TailAt (w : World) (p0 p1 p2 p3 : Value) (wc : World) : Prop := ∀ (v4 v5 v6 v7 v8 v9 v10 v11 v12 v13 v14 v15 v16 v17 v18 v19 v20 v21 v22 v23 v24 v25 v26 v27 v28 v29 v30 v31 v32 v33 v34 v35 v36 v37 v38 v39 v40 v41 v42 v43 v44 v45 v46 v47 v48 v49 v50 v51 v52 v53 v54 v55 v56 v57 v58 v59 v60 v61 v62 v63 v64 v65 v66 v67 v68 v69 v70 v71 v72 v73 v74 v75 v76 v77 v78 v79 v80 v81 v82 v83 v84 v85 v86 v87 v88 v89 v90 v91 v92 v93 v94 v95 v96 v97 v98 v99 v100 v101 v102 v103 v104 v105 v106 v107 v108 v109 v110 v111 v112 v113 v114 v115 v116 v117 v118 v119 v120 v121 v122 v123 v124 v125 v126 v127 v128 v129 v130 v131 v132 v133 v134 v135 v136 v137 v138 v139 v140 v141 v142 v143 v144 v145 v146 v147 v148 v149 v150 v151 v152 v153 v154 v155 v156 v157 v158 v159 v160 v161 v162 v163 v164 v165 v166 v167 v168 v169 v170 v171 v172 v173 v174 v175 v176 v177 v178 v179 v180 v181 v182 v183 v184 v185 v186 v187 v188 v189 v190 v191 v192 v193 v194 v195 v196 v197 v198 v199 v200 v201 v202 v203 v204 v205 v206 v207 v208 v209 v210 v211 v212 v213 v214 v215 v216 v217 v218 v219 v220 v221 v222 v223 v224 v225 v226 v227 v228 v229 v230 v231 v232 v233 v234 v235 v236 v237 v238 v239 v240 v241 v242 v243 v244 v245 v246 v247 v248 v249 v250 v251 v252 v253 v254 v255 v256 v257 v258 v259 v260 v261 v262 v263 v264 v265 v266 v267 v268 v269 v270 v271 v272 v273 v274 v275 v276 v277 v278 v279 v280 v281 v282 v283 v284 v285 v286 v287 v288 v289 v290 v291 v292 v293 v294 v295 v296 v297 v298 v299 v300 v301 v302 v303 v304 v305 v306 v307 v308 v309 v310 v311 v312 v313 v314 v315 v316 v317 v318 v319 v320 v321 v322 v323 v324 v325 v326 v327 v328 v329 v330 v331 v332 v333 v334 v335 v336 v337 : Value), Code.wp Tryz.prog tailCode (bodyPost Tryz.prog Tryz.f3 (CheckPost w (.bool true))) ⟨#[p0, p1, p2, p3, v4, v5, v6, v7, v8, v9, v10, v11, v12, v13, v14, v15, v16, v17, v18, v19, v20, v21, v22, v23, v24, v25, v26, v27, v28, v29, v30, v31, v32, v33, v34, v35, v36, v37, v38, v39, v40, v41, v42, v43, v44, v45, v46, v47, v48, v49, v50, v51, v52, v53, v54, v55, v56, v57, v58, v59, v60, v61, v62, v63, v64, v65, v66, v67, v68, v69, v70, v71, v72, v73, v74, v75, v76, v77, v78, v79, v80, v81, v82, v83, v84, v85, v86, v87, v88, v89, v90, v91, v92, v93, v94, v95, v96, v97, v98, v99, v100, v101, v102, v103, v104, v105, v106, v107, v108, v109, v110, v111, v112, v113, v114, v115, v116, v117, v118, v119, v120, v121, v122, v123, v124, v125, v126, v127, v128, v129, v130, v131, v132, v133, v134, v135, v136, v137, v138, v139, v140, v141, v142, v143, v144, v145, v146, v147, v148, v149, v150, v151, v152, v153, v154, v155, v156, v157, v158, v159, v160, v161, v162, v163, v164, v165, v166, v167, v168, v169, v170, v171, v172, v173, v174, v175, v176, v177, v178, v179, v180, v181, v182, v183, v184, v185, v186, v187, v188, v189, v190, v191, v192, v193, v194, v195, v196, v197, v198, v199, v200, v201, v202, v203, v204, v205, v206, v207, v208, v209, v210, v211, v212, v213, v214, v215, v216, v217, v218, v219, v220, v221, v222, v223, v224, v225, v226, v227, v228, v229, v230, v231, v232, v233, v234, v235, v236, v237, v238, v239, v240, v241, v242, v243, v244, v245, v246, v247, v248, v249, v250, v251, v252, v253, v254, v255, v256, v257, v258, v259, v260, v261, v262, v263, v264, v265, v266, v267, v268, v269, v270, v271, v272, v273, v274, v275, v276, v277, v278, v279, v280, v281, v282, v283, v284, v285, v286, v287, v288, v289, v290, v291, v292, v293, v294, v295, v296, v297, v298, v299, v300, v301, v302, v303, v304, v305, v306, v307, v308, v309, v310, v311, v312, v313, v314, v315, v316, v317, v318, v319, v320, v321, v322, v323, v324, v325, v326, v327, v328, v329, v330, v331, v332, v333, v334, v335, v336, v337], []⟩ wc
theorem TailAt.use {w : World} {p0 p1 p2 p3 : Value} {wc : World} (h : TailAt w p0 p1 p2 p3 wc) {v4 v5 v6 v7 v8 v9 v10 v11 v12 v13 v14 v15 v16 v17 v18 v19 v20 v21 v22 v23 v24 v25 v26 v27 v28 v29 v30 v31 v32 v33 v34 v35 v36 v37 v38 v39 v40 v41 v42 v43 v44 v45 v46 v47 v48 v49 v50 v51 v52 v53 v54 v55 v56 v57 v58 v59 v60 v61 v62 v63 v64 v65 v66 v67 v68 v69 v70 v71 v72 v73 v74 v75 v76 v77 v78 v79 v80 v81 v82 v83 v84 v85 v86 v87 v88 v89 v90 v91 v92 v93 v94 v95 v96 v97 v98 v99 v100 v101 v102 v103 v104 v105 v106 v107 v108 v109 v110 v111 v112 v113 v114 v115 v116 v117 v118 v119 v120 v121 v122 v123 v124 v125 v126 v127 v128 v129 v130 v131 v132 v133 v134 v135 v136 v137 v138 v139 v140 v141 v142 v143 v144 v145 v146 v147 v148 v149 v150 v151 v152 v153 v154 v155 v156 v157 v158 v159 v160 v161 v162 v163 v164 v165 v166 v167 v168 v169 v170 v171 v172 v173 v174 v175 v176 v177 v178 v179 v180 v181 v182 v183 v184 v185 v186 v187 v188 v189 v190 v191 v192 v193 v194 v195 v196 v197 v198 v199 v200 v201 v202 v203 v204 v205 v206 v207 v208 v209 v210 v211 v212 v213 v214 v215 v216 v217 v218 v219 v220 v221 v222 v223 v224 v225 v226 v227 v228 v229 v230 v231 v232 v233 v234 v235 v236 v237 v238 v239 v240 v241 v242 v243 v244 v245 v246 v247 v248 v249 v250 v251 v252 v253 v254 v255 v256 v257 v258 v259 v260 v261 v262 v263 v264 v265 v266 v267 v268 v269 v270 v271 v272 v273 v274 v275 v276 v277 v278 v279 v280 v281 v282 v283 v284 v285 v286 v287 v288 v289 v290 v291 v292 v293 v294 v295 v296 v297 v298 v299 v300 v301 v302 v303 v304 v305 v306 v307 v308 v309 v310 v311 v312 v313 v314 v315 v316 v317 v318 v319 v320 v321 v322 v323 v324 v325 v326 v327 v328 v329 v330 v331 v332 v333 v334 v335 v336 v337 : Value} : Code.wp Tryz.prog tailCode (bodyPost Tryz.prog Tryz.f3 (CheckPost w (.bool true))) ⟨#[p0, p1, p2, p3, v4, v5, v6, v7, v8, v9, v10, v11, v12, v13, v14, v15, v16, v17, v18, v19, v20, v21, v22, v23, v24, v25, v26, v27, v28, v29, v30, v31, v32, v33, v34, v35, v36, v37, v38, v39, v40, v41, v42, v43, v44, v45, v46, v47, v48, v49, v50, v51, v52, v53, v54, v55, v56, v57, v58, v59, v60, v61, v62, v63, v64, v65, v66, v67, v68, v69, v70, v71, v72, v73, v74, v75, v76, v77, v78, v79, v80, v81, v82, v83, v84, v85, v86, v87, v88, v89, v90, v91, v92, v93, v94, v95, v96, v97, v98, v99, v100, v101, v102, v103, v104, v105, v106, v107, v108, v109, v110, v111, v112, v113, v114, v115, v116, v117, v118, v119, v120, v121, v122, v123, v124, v125, v126, v127, v128, v129, v130, v131, v132, v133, v134, v135, v136, v137, v138, v139, v140, v141, v142, v143, v144, v145, v146, v147, v148, v149, v150, v151, v152, v153, v154, v155, v156, v157, v158, v159, v160, v161, v162, v163, v164, v165, v166, v167, v168, v169, v170, v171, v172, v173, v174, v175, v176, v177, v178, v179, v180, v181, v182, v183, v184, v185, v186, v187, v188, v189, v190, v191, v192, v193, v194, v195, v196, v197, v198, v199, v200, v201, v202, v203, v204, v205, v206, v207, v208, v209, v210, v211, v212, v213, v214, v215, v216, v217, v218, v219, v220, v221, v222, v223, v224, v225, v226, v227, v228, v229, v230, v231, v232, v233, v234, v235, v236, v237, v238, v239, v240, v241, v242, v243, v244, v245, v246, v247, v248, v249, v250, v251, v252, v253, v254, v255, v256, v257, v258, v259, v260, v261, v262, v263, v264, v265, v266, v267, v268, v269, v270, v271, v272, v273, v274, v275, v276, v277, v278, v279, v280, v281, v282, v283, v284, v285, v286, v287, v288, v289, v290, v291, v292, v293, v294, v295, v296, v297, v298, v299, v300, v301, v302, v303, v304, v305, v306, v307, v308, v309, v310, v311, v312, v313, v314, v315, v316, v317, v318, v319, v320, v321, v322, v323, v324, v325, v326, v327, v328, v329, v330, v331, v332, v333, v334, v335, v336, v337], []⟩ wc := by
  unfold TailAt at h
  apply h
/-- A log, and beside it an op in a block of its own. -/
def LB (w : World) (b ga : Nat) (L : LLog) (cs : Array Value) (W : World) : Prop := LK w w.heap.size b L [ga] W ∧ Blk W ga 30 cs ∧ w.heap.size ≤ ga
namespace LB
variable {w W w' : World} {b ga : Nat} {L L' : LLog} {cs : Array Value}
theorem below (h : LB w b ga L cs W) : Below w.heap.size w W := h.1.below
theorem off (h : LB w b ga L cs W) (hL : LK w w.heap.size b L' [ga] w') (ho : Off w.heap.size [ga] W w') : LB w b ga L' cs w' := by
  obtain ⟨T, h1, h2⟩ := ho
  exact ⟨hL, h1.blk h.2.1 (fun hm => (h2 ga hm).2 (by simp)), h.2.2⟩
theorem step (h : LB w b ga L cs W) (hb : Below W.heap.size W w') : LB w b ga L cs w' := h.off (h.1.step hb) (Off.of_below hb)
theorem cell (h : LB w b ga L cs W) (i : Nat) : W.cell? ⟨ga, i, none⟩ = cs[i]? := h.2.1.cell i
theorem set (h : LB w b ga L cs W) (i : Nat) (u : Value) : LB w b ga L (cs.setIfInBounds i u) (W.setCell ⟨ga, i, none⟩ u) := by
  have ho : Only [ga] W (W.setCell ⟨ga, i, none⟩ u) := (Only.refl _ _).setCell (.inl (by simp)) _
  exact ⟨h.1.go ho (fun g hg => ⟨hg, by simp at hg; subst hg; exact h.2.2⟩) (fun g hg => .inl hg), h.2.1.set_ i u, h.2.2⟩
theorem put (h : LB w b ga L cs W) (o : LOp) (hs : o.seen = []) (hp : o.place.size ≤ 9223372036854775807) :
    Calls Tryz.prog 10 #[.pointer (some ⟨b, 0, none⟩), o.val none 0] W (fun e w' => e = .returned (.tuple #[.bool (L.putB o), errV (L.putE o)]) ∧ LB w b ga (L.put o) cs w') :=
  (h.1.put0 o hs hp).mono fun e w' hh => ⟨hh.1, h.off hh.2.1 hh.2.2⟩
theorem sync (h : LB w b ga L cs W) : Calls Tryz.prog 11 #[.pointer (some ⟨b, 0, none⟩)] W (fun e w' => e = .returned (errV L.syncE) ∧ LB w b ga L.sync cs w') :=
  h.1.sync.mono fun e w' hh => ⟨hh.1, h.off hh.2.1 hh.2.2⟩
theorem crash (h : LB w b ga L cs W) (k : Int) (h0 : -9223372036854775808 ≤ k) (h1 : k ≤ 9223372036854775807) : Calls Tryz.prog 12 #[.pointer (some ⟨b, 0, none⟩), .int .i64 k] W (fun e w' => e = .returned (.tuple #[]) ∧ LB w b ga (L.crash k) cs w') :=
  (h.1.crash k h0 h1).mono fun e w' hh => ⟨hh.1, h.off hh.2.1 hh.2.2⟩
end LB
set_option maxRecDepth 100000 in
set_option maxHeartbeats 8000000 in
theorem walk (w : World) (p0 p1 p2 p3 : Value) (htail : ∀ (wc : World), Below w.heap.size w wc → TailAt w p0 p1 p2 p3 wc) :
    Calls Tryz.prog 3 #[p0, p1, p2, p3] w (CheckPost w (.bool true)) := by
  have HN := Lib.hid (lnew_any w)
  have HT := Lib.hid htail
  clear htail
  have HE0 : errV 0 = .nilIface := rfl
  go_enter Tryz.func3, Tryz.ntmps3
  go_wp2_with fail
  refine HN.out.mono ?_
  intro e w1 hpost
  obtain ⟨b, rfl, hlk⟩ := LK.make (Below.refl _ _) hpost
  have HL1 := Lib.hid hlk
  clear hpost hlk HN
  go_upto_region 3 with (fail)
  obtain ⟨WA, hWA⟩ : ∃ WA, WA = w1.alloc (.cells #[.int .i64 1, .int .i64 1, .int .i64 1, .string ⟨#[110, 98]⟩, .int .i64 104, .slice none 0 0] 30) := ⟨_, rfl⟩
  obtain ⟨ga, hga⟩ : ∃ ga, ga = w1.heap.size := ⟨_, rfl⟩
  have HA : Hid (LB w b ga LLog.new (o1.cells none 0) WA) := by
    have hbw : Below w1.heap.size w1 WA := by rw [hWA]; exact (Below.refl _ _).alloc (Nat.le_refl _) _
    refine ⟨HL1.out.go (T := []) (Only.of_below hbw) (by simp) (fun g hg => .inr ?_), ?_, ?_⟩
    · simp at hg
      rw [hg, hga, hWA]
      exact ⟨Nat.le_refl _, by simp⟩
    · rw [hga, hWA]
      exact Blk.new w1 _ _
    · rw [hga]; exact HL1.out.below.size
  rw [← hWA, ← hga]
  have HCEL : Hid (∀ L W p n, LB w b ga L #[.int .i64 1, .int .i64 n, .int .i64 1, .string p, .int .i64 104, .slice none 0 0] W → W.cell? ⟨ga, 0, none⟩ = some (.int .i64 1) ∧ W.cell? ⟨ga, 1, none⟩ = some (.int .i64 n) ∧ W.cell? ⟨ga, 2, none⟩ = some (.int .i64 1) ∧ W.cell? ⟨ga, 3, none⟩ = some (.string p) ∧ W.cell? ⟨ga, 4, none⟩ = some (.int .i64 104) ∧ W.cell? ⟨ga, 5, none⟩ = some (.slice none 0 0) ∧ (∀ i, W.frozen? ⟨ga, i, none⟩ = false)) :=
    fun L W p n h => ⟨h.cell 0, h.cell 1, h.cell 2, h.cell 3, h.cell 4, h.cell 5, fun i => h.2.1.frozen i⟩
  clear hWA hga HL1
  obtain ⟨F1, F2, F3, F4, F5⟩ := facts
  have HF5 := Lib.hid F5
  have HP1 := Lib.hid (HA.out.put o1 rfl (by decide))
  rw [F1, F2, HE0] at HP1
  obtain ⟨c0, c1, c2, c3, c4, c5, _⟩ := HCEL.out _ _ _ _ HA.out
  clear F1 F2 F5
  go_wp2_with fail
  refine HP1.out.mono ?_
  rintro e w3 ⟨rfl, h3⟩
  have H3 := Lib.hid h3
  have HS := Lib.hid h3.sync
  rw [F3, HE0] at HS
  clear h3 HP1 HA c0 c1 c2 c3 c4 c5 F3
  go_wp2_with fail
  refine HS.out.mono ?_
  rintro e w4 ⟨rfl, h4⟩
  have H4 := Lib.hid h4
  generalize hL2 : (LLog.new.put o1).sync = L2 at *
  have H6 : Hid (LB w b ga L2 (o2.cells none 0) ((w4.setCell ⟨ga, 1, none⟩ (.int .i64 2)).setCell ⟨ga, 3, none⟩ (.string ⟨#[111, 98]⟩))) := by
    have := (h4.set 1 (.int .i64 2)).set 3 (.string ⟨#[111, 98]⟩)
    exact this
  have H5 := Lib.hid (h4.set 1 (.int .i64 2))
  obtain ⟨c0, c1, c2, c3, c4, c5, cf⟩ := HCEL.out _ _ _ _ h4
  have d3 := (HCEL.out _ _ _ _ H5.out).2.2.2.1
  have df := (HCEL.out _ _ _ _ H5.out).2.2.2.2.2.2 3
  have f1 := cf 1
  clear h4 HS H3 hL2 cf
  go_upto_region 7 with (fail)
  obtain ⟨W6, hW6⟩ : ∃ W6, W6 = (w4.setCell ⟨ga, 1, none⟩ (.int .i64 2)).setCell ⟨ga, 3, none⟩ (.string ⟨#[111, 98]⟩) := ⟨_, rfl⟩
  rw [← hW6] at H6
  rw [← hW6]
  clear hW6 c0 c1 c2 c3 c4 c5 d3 df f1 H5 H4
  obtain ⟨c0, c1, c2, c3, c4, c5, _⟩ := HCEL.out _ _ _ _ H6.out
  have HP2 := Lib.hid (H6.out.put o2 rfl (by decide))
  rw [F4, HE0] at HP2
  obtain ⟨bb, hbb⟩ : ∃ bb, bb = L2.putB o2 := ⟨_, rfl⟩
  rw [← hbb] at HP2
  clear F4 hbb
  go_wp2_with fail
  refine HP2.out.mono ?_
  rintro e w7 ⟨rfl, h7⟩
  have HC := Lib.hid (h7.crash 0 (by omega) (by omega))
  clear h7 HP2 H6 c0 c1 c2 c3 c4 c5
  go_wp2_with fail
  refine HC.out.mono ?_
  rintro e w8 ⟨rfl, h8⟩
  have H8 := Lib.hid h8
  have HD := Lib.hid h8.1.doc
  have HMS : Hid (((L2.put o2).crash 0).safe = ((L2.put o2).crash 0).m) := rfl
  generalize (L2.put o2).crash 0 = L4 at *
  clear h8 HC
  go_wp2_with fail
  refine HD.out.mono ?_
  rintro e w9 ⟨bd, SD, D, rfl, hw, hdoc, hok⟩
  obtain rfl := hw.symm
  have HTX := Lib.hid (text_doc w8 _ SD bd _ D hdoc hok)
  rw [HF5.out] at HTX
  clear hw hdoc hok HD
  go_wp2_with fail
  refine HTX.out.mono ?_
  rintro e w10 ⟨rfl, h10⟩
  have H10 := Lib.hid (H8.out.step h10)
  have HBY := Lib.hid H10.out.1.bytes
  have HSF := Lib.hid H10.out.1.safe
  rw [HMS.out] at HSF
  have HB10 := Lib.hid H10.out.below
  generalize L4.m = mm at *
  clear h10 H8 HTX HMS H10
  go_wp2_with fail
  refine HBY.out.mono ?_
  rintro e w11 ⟨rfl, hw⟩
  obtain rfl := hw.symm
  clear hw HBY
  go_wp2_with fail
  refine HSF.out.mono ?_
  rintro e w11 ⟨rfl, hw⟩
  obtain rfl := hw.symm
  clear hw HSF
  go_upto_if 88 with (fail)
  go_cut [] (fun wx => Hid (Below w.heap.size w wx))
  case first =>
    go_wp2_with fail
    go_meet
    case rel => exact HB10
  case rest =>
  rename_i hK
  exact hK _ _ (HT.out wc hcut.out).use
end lawLogKeepsA
end Go.Proofs.YthfbjfocmnikaaaGreatDoor

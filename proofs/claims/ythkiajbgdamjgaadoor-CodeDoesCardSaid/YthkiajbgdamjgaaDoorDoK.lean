/- For the law CodeDoes: two stages of its walk: the comparison of both states, the loop over the homes. Conditions: both states beside each other. -/
import Derived.Test.YthkiajbgdamjgaaDoorDoN
import Derived.Deep.DeepCutAuto
import Derived.Deep.CutBlock
namespace Go.Proofs.YthkiajbgdamjgaaDoor
set_option linter.unusedVariables false
open Go.RowKit
attribute [local irreducible] Blk

/-- The region, or the block, of that number. -/
def findRegion (n : Nat) : Code → Option Code
  | .region k a b => if k == n then some (.region k a b) else none
  | .seq a b => match findRegion n a with
    | some c => some c
    | none => findRegion n b
  | .block _ c => findRegion n c
  | .loop c => findRegion n c
  | .scope c => findRegion n c
  | .cond _ a b => match findRegion n a with
    | some c => some c
    | none => findRegion n b
  | _ => none
def findBlock (n : Nat) : Code → Option Code
  | .block k c => if k == n then some (.block k c) else findBlock n c
  | .seq a b => match findBlock n a with
    | some c => some c
    | none => findBlock n b
  | .loop c => findBlock n c
  | .scope c => findBlock n c
  | .cond _ a b => match findBlock n a with
    | some c => some c
    | none => findBlock n b
  | _ => none
noncomputable def regionOf (n : Nat) (c : Option Code) : Code := (c.bind (findRegion n)).getD .skip
noncomputable def blockOf (n : Nat) (c : Option Code) : Code := (c.bind (findBlock n)).getD .skip

set_option maxRecDepth 100000 in
set_option maxHeartbeats 100000000 in
theorem stage36 (wc : World) (G gv : Nat) (hs : List HV) (s2 t2 : M) (vf2 : Nat → Int) (os2 ot2 : Value) (K : Act → World → Prop) (Q : Exit → Act → World → Prop) (v0 v1 v2 v3 v4 v5 v6 v7 v8 v9 v12 v13 v14 v15 v16 v17 v18 v19 v20 v21 v22 v23 v24 v25 v26 v27 v28 v29 v30 v31 v32 v33 v34 v35 v36 v37 v38 v39 v40 v41 v42 v43 v44 v45 v46 v47 v48 v49 v50 v51 v52 v53 v54 v55 v56 v57 v58 v59 v60 v61 v62 v63 v64 v65 v66 v67 v68 v69 v70 v71 v72 v73 v74 v75 v76 v77 v78 v79 v80 v81 v82 v83 v84 v85 v86 v87 v88 v89 v90 v91 v92 v93 v94 v95 v96 v97 v98 v99 v100 v101 v102 v103 v104 v105 v106 v107 v108 v109 v110 v111 v112 v113 v114 v115 v116 v117 v118 v119 v120 v121 v122 v123 v124 v125 v126 v127 v128 v129 v130 v131 v132 v133 v134 v135 v136 v137 v138 v139 v140 v141 v142 v143 v144 v145 v146 v147 v148 v149 v150 v151 v152 v153 v154 v155 v156 v157 v158 v159 v160 v161 v162 v163 v164 v165 v166 v167 v168 v169 v170 v171 v172 v173 v174 v175 v176 v177 v178 v179 v180 v181 v182 v183 v184 v185 v186 v187 v188 v189 v190 v191 v192 v193 v194 v195 v196 v197 v198 v199 v200 v201 v202 v203 v204 v205 v206 v207 v208 v209 v210 v211 v212 v213 v214 v215 v216 v217 v218 v219 v220 v221 v222 v223 v224 v225 v226 v227 v228 v229 v230 v231 v232 v233 v234 v235 v236 v237 v238 v239 v240 v241 v242 v243 v244 v245 v246 v247 v248 v249 v250 v251 v252 v253 v254 v255 v256 v257 v258 v259 v260 v261 v262 v263 v264 v265 v266 v267 v268 v269 v270 v271 v272 v273 : Value) (HS : Rel hs s2 t2 vf2) (h4 : St4 wc G gv s2 t2 vf2 os2 ot2)
    (hK : ∀ (W : World) (x169 x170 x171 x172 x173 x174 x175 x176 x177 x178 x179 x180 x181 x182 x183 x184 x185 x186 x187 x188 x189 x190 x191 x192 x193 x194 x195 x196 x197 x198 x199 x200 x201 x202 x203 x204 x205 x206 x207 x208 x209 x210 x211 : Value), (∃ nq, W = wc.drewN nq) → K { tmps := #[v0, v1, v2, v3, v4, v5, v6, v7, v8, v9, .pointer (some ⟨G, 0, none⟩), .pointer (some ⟨G + 1, 0, none⟩), v12, v13, v14, v15, v16, v17, v18, v19, v20, v21, v22, v23, v24, v25, v26, v27, v28, v29, v30, v31, v32, v33, v34, v35, v36, v37, v38, v39, v40, v41, v42, v43, v44, v45, v46, v47, v48, v49, v50, v51, v52, v53, v54, v55, v56, v57, v58, v59, v60, v61, v62, v63, v64, v65, v66, v67, v68, v69, v70, v71, v72, v73, v74, v75, v76, v77, v78, v79, v80, v81, v82, v83, v84, v85, v86, v87, v88, v89, v90, v91, v92, v93, v94, v95, v96, v97, v98, v99, v100, v101, v102, v103, v104, v105, v106, v107, v108, v109, v110, v111, v112, v113, v114, v115, v116, v117, v118, v119, v120, v121, v122, v123, v124, v125, v126, v127, v128, v129, v130, v131, v132, v133, v134, v135, v136, v137, v138, v139, v140, v141, v142, v143, v144, v145, v146, v147, v148, v149, v150, v151, v152, v153, v154, v155, v156, v157, v158, v159, v160, v161, v162, v163, v164, v165, v166, v167, v168, x169, x170, x171, x172, x173, x174, x175, x176, x177, x178, x179, x180, x181, x182, x183, x184, x185, x186, x187, x188, x189, x190, x191, x192, x193, x194, x195, x196, x197, x198, x199, x200, x201, x202, x203, x204, x205, x206, x207, x208, x209, x210, x211, .bool false, v213, v214, v215, v216, v217, v218, v219, v220, v221, v222, v223, v224, v225, v226, v227, v228, v229, v230, v231, v232, v233, v234, v235, v236, v237, v238, v239, v240, v241, v242, v243, v244, v245, v246, v247, v248, v249, v250, v251, v252, v253, v254, v255, v256, v257, v258, v259, v260, v261, v262, v263, v264, v265, v266, v267, v268, v269, v270, v271, v272, v273], defers := [] } W) :
    Code.wp Tryd.prog (regionOf 36 Tryd.f4.body) (Exit.then K Q) { tmps := #[v0, v1, v2, v3, v4, v5, v6, v7, v8, v9, .pointer (some ⟨G, 0, none⟩), .pointer (some ⟨G + 1, 0, none⟩), v12, v13, v14, v15, v16, v17, v18, v19, v20, v21, v22, v23, v24, v25, v26, v27, v28, v29, v30, v31, v32, v33, v34, v35, v36, v37, v38, v39, v40, v41, v42, v43, v44, v45, v46, v47, v48, v49, v50, v51, v52, v53, v54, v55, v56, v57, v58, v59, v60, v61, v62, v63, v64, v65, v66, v67, v68, v69, v70, v71, v72, v73, v74, v75, v76, v77, v78, v79, v80, v81, v82, v83, v84, v85, v86, v87, v88, v89, v90, v91, v92, v93, v94, v95, v96, v97, v98, v99, v100, v101, v102, v103, v104, v105, v106, v107, v108, v109, v110, v111, v112, v113, v114, v115, v116, v117, v118, v119, v120, v121, v122, v123, v124, v125, v126, v127, v128, v129, v130, v131, v132, v133, v134, v135, v136, v137, v138, v139, v140, v141, v142, v143, v144, v145, v146, v147, v148, v149, v150, v151, v152, v153, v154, v155, v156, v157, v158, v159, v160, v161, v162, v163, v164, v165, v166, v167, v168, v169, v170, v171, v172, v173, v174, v175, v176, v177, v178, v179, v180, v181, v182, v183, v184, v185, v186, v187, v188, v189, v190, v191, v192, v193, v194, v195, v196, v197, v198, v199, v200, v201, v202, v203, v204, v205, v206, v207, v208, v209, v210, v211, v212, v213, v214, v215, v216, v217, v218, v219, v220, v221, v222, v223, v224, v225, v226, v227, v228, v229, v230, v231, v232, v233, v234, v235, v236, v237, v238, v239, v240, v241, v242, v243, v244, v245, v246, v247, v248, v249, v250, v251, v252, v253, v254, v255, v256, v257, v258, v259, v260, v261, v262, v263, v264, v265, v266, v267, v268, v269, v270, v271, v272, v273], defers := [] } wc := by
  conv => arg 2; whnf
  have hso := h4.ms.out
  have hto := h4.mt.out
  obtain ⟨As, cs, hse, _⟩ := h4.ros.slice
  obtain ⟨At, ct, hte, _⟩ := h4.rot.slice
  rw [hse] at hso
  rw [hte, ← HS.os] at hto
  have c73 := h4.ms.trap
  have d73 := h4.mt.trap
  rw [← HS.tr] at d73
  have hSl := h4.ms.lt
  have hTl := h4.mt.lt
  have s48 := h4.ms.num 48 (by omega)
  have t48 := h4.mt.num 48 (by omega)
  rw [← HS.rest 48 (by omega) (by omega)] at t48
  have s49 := h4.ms.num 49 (by omega)
  have t49 := h4.mt.num 49 (by omega)
  rw [← HS.rest 49 (by omega) (by omega)] at t49
  have s50 := h4.ms.num 50 (by omega)
  have t50 := h4.mt.num 50 (by omega)
  rw [← HS.rest 50 (by omega) (by omega)] at t50
  have s51 := h4.ms.num 51 (by omega)
  have t51 := h4.mt.num 51 (by omega)
  rw [← HS.rest 51 (by omega) (by omega)] at t51
  have s52 := h4.ms.num 52 (by omega)
  have t52 := h4.mt.num 52 (by omega)
  rw [← HS.rest 52 (by omega) (by omega)] at t52
  have s53 := h4.ms.num 53 (by omega)
  have t53 := h4.mt.num 53 (by omega)
  rw [← HS.rest 53 (by omega) (by omega)] at t53
  have s54 := h4.ms.num 54 (by omega)
  have t54 := h4.mt.num 54 (by omega)
  rw [← HS.rest 54 (by omega) (by omega)] at t54
  have s55 := h4.ms.num 55 (by omega)
  have t55 := h4.mt.num 55 (by omega)
  rw [← HS.rest 55 (by omega) (by omega)] at t55
  have s56 := h4.ms.num 56 (by omega)
  have t56 := h4.mt.num 56 (by omega)
  rw [← HS.rest 56 (by omega) (by omega)] at t56
  have s57 := h4.ms.num 57 (by omega)
  have t57 := h4.mt.num 57 (by omega)
  rw [← HS.rest 57 (by omega) (by omega)] at t57
  have s58 := h4.ms.num 58 (by omega)
  have t58 := h4.mt.num 58 (by omega)
  rw [← HS.rest 58 (by omega) (by omega)] at t58
  have s59 := h4.ms.num 59 (by omega)
  have t59 := h4.mt.num 59 (by omega)
  rw [← HS.rest 59 (by omega) (by omega)] at t59
  have s60 := h4.ms.num 60 (by omega)
  have t60 := h4.mt.num 60 (by omega)
  rw [← HS.rest 60 (by omega) (by omega)] at t60
  have s61 := h4.ms.num 61 (by omega)
  have t61 := h4.mt.num 61 (by omega)
  rw [← HS.rest 61 (by omega) (by omega)] at t61
  have s62 := h4.ms.num 62 (by omega)
  have t62 := h4.mt.num 62 (by omega)
  rw [← HS.rest 62 (by omega) (by omega)] at t62
  have s63 := h4.ms.num 63 (by omega)
  have t63 := h4.mt.num 63 (by omega)
  rw [← HS.rest 63 (by omega) (by omega)] at t63
  have s64 := h4.ms.num 64 (by omega)
  have t64 := h4.mt.num 64 (by omega)
  rw [← HS.rest 64 (by omega) (by omega)] at t64
  have s65 := h4.ms.num 65 (by omega)
  have t65 := h4.mt.num 65 (by omega)
  rw [← HS.rest 65 (by omega) (by omega)] at t65
  have s66 := h4.ms.num 66 (by omega)
  have t66 := h4.mt.num 66 (by omega)
  rw [← HS.rest 66 (by omega) (by omega)] at t66
  have s67 := h4.ms.num 67 (by omega)
  have t67 := h4.mt.num 67 (by omega)
  rw [← HS.rest 67 (by omega) (by omega)] at t67
  have s68 := h4.ms.num 68 (by omega)
  have t68 := h4.mt.num 68 (by omega)
  rw [← HS.rest 68 (by omega) (by omega)] at t68
  have s69 := h4.ms.num 69 (by omega)
  have t69 := h4.mt.num 69 (by omega)
  rw [← HS.rest 69 (by omega) (by omega)] at t69
  have s70 := h4.ms.num 70 (by omega)
  have t70 := h4.mt.num 70 (by omega)
  rw [← HS.rest 70 (by omega) (by omega)] at t70
  have s71 := h4.ms.num 71 (by omega)
  have t71 := h4.mt.num 71 (by omega)
  rw [← HS.rest 71 (by omega) (by omega)] at t71
  have e16 := neq16 s2.f
  simp only [a16] at e16
  have e8 := neq8 s2.f
  simp only [a8] at e8
  go_quiet (fail)
  go_wp2_with fail
  exact ⟨_, rfl⟩

set_option maxRecDepth 100000 in
set_option maxHeartbeats 100000000 in
theorem stage10 (w wx : World) (G gv cap : Nat) (A1 : Option Addr) (c1 : Nat) (hs : List HV) (s2 t2 : M) (vf2 : Nat → Int) (os2 ot2 : Value) (Q : Exit → Act → World → Prop) (v0 v1 v2 v3 v4 v5 v6 v8 v9 v11 v13 v14 v15 v16 v17 v18 v20 v21 v22 v23 v24 v25 v26 v27 v28 v29 v30 v31 v32 v33 v34 v35 v36 v37 v38 v39 v40 v41 v42 v43 v44 v45 v46 v47 v48 v49 v50 v51 v52 v53 v54 v55 v56 v57 v58 v59 v60 v61 v62 v63 v64 v65 v66 v67 v68 v69 v70 v71 v72 v73 v74 v75 v76 v77 v78 v79 v80 v81 v82 v83 v84 v85 v86 v87 v88 v89 v90 v91 v92 v93 v94 v95 v96 v97 v98 v99 v100 v101 v102 v103 v104 v105 v106 v107 v108 v109 v110 v111 v112 v113 v114 v115 v116 v117 v118 v119 v120 v121 v122 v123 v124 v125 v126 v127 v128 v129 v130 v131 v132 v133 v134 v135 v136 v137 v138 v139 v140 v141 v142 v143 v144 v145 v146 v147 v148 v149 v150 v151 v152 v153 v154 v155 v156 v157 v158 v159 v160 v161 v162 v163 v164 v165 v166 v167 v168 v169 v170 v171 v172 v173 v174 v175 v176 v177 v178 v179 v180 v181 v182 v183 v184 v185 v186 v187 v188 v189 v190 v191 v192 v193 v194 v195 v196 v197 v198 v199 v200 v201 v202 v203 v204 v205 v206 v207 v208 v209 v210 v211 v212 v213 v214 v215 v216 v217 v218 v219 v220 v221 v222 v223 v224 v225 v226 v227 v228 v229 v230 v231 v232 v233 v234 v235 v236 v237 v238 v239 v240 v241 v242 v243 v244 v245 v246 v247 v248 v249 v250 v251 v252 v253 v254 v255 v256 v257 v258 v259 v260 v261 v262 v263 v264 v265 v266 v267 v268 v269 v270 v271 v272 v273 : Value)
    (H8 : HOk hs) (HH : Hid (hs.length = 8)) (HS2 : Hid (Rel hs s2 t2 vf2)) (h4x : St4 wx G gv s2 t2 vf2 os2 ot2) (hrepx : RepH wx G A1 hs) (hbrx : Below w.heap.size w wx) (hGlx : G ≤ wx.heap.size) (hwG : w.heap.size + 2 ≤ G)
    (hK : ∀ (W : World) (x6 x19 x20 x213 x214 x215 x216 x217 x218 x219 x220 x221 x222 x223 x224 x225 x226 x227 x228 x229 x230 x231 x232 x233 x234 x235 x236 x237 x238 x239 x240 x241 x242 x243 x244 x245 x246 x247 x248 x249 : Value), (St4 W G gv s2 t2 vf2 os2 ot2 ∧ RepH W G A1 hs ∧ Below w.heap.size w W ∧ G ≤ W.heap.size) → Q .normal { tmps := #[v0, v1, v2, v3, v4, v5, x6, .slice A1 8 c1, v8, v9, .pointer (some ⟨G, 0, none⟩), v11, .slice (some ⟨gv, 0, none⟩) 8 cap, v13, v14, v15, v16, v17, v18, x19, x20, v21, v22, v23, v24, v25, v26, v27, v28, v29, v30, v31, v32, v33, v34, v35, v36, v37, v38, v39, v40, v41, v42, v43, v44, v45, v46, v47, v48, v49, v50, v51, v52, v53, v54, v55, v56, v57, v58, v59, v60, v61, v62, v63, v64, v65, v66, v67, v68, v69, v70, v71, v72, v73, v74, v75, v76, v77, v78, v79, v80, v81, v82, v83, v84, v85, v86, v87, v88, v89, v90, v91, v92, v93, v94, v95, v96, v97, v98, v99, v100, v101, v102, v103, v104, v105, v106, v107, v108, v109, v110, v111, v112, v113, v114, v115, v116, v117, v118, v119, v120, v121, v122, v123, v124, v125, v126, v127, v128, v129, v130, v131, v132, v133, v134, v135, v136, v137, v138, v139, v140, v141, v142, v143, v144, v145, v146, v147, v148, v149, v150, v151, v152, v153, v154, v155, v156, v157, v158, v159, v160, v161, v162, v163, v164, v165, v166, v167, v168, v169, v170, v171, v172, v173, v174, v175, v176, v177, v178, v179, v180, v181, v182, v183, v184, v185, v186, v187, v188, v189, v190, v191, v192, v193, v194, v195, v196, v197, v198, v199, v200, v201, v202, v203, v204, v205, v206, v207, v208, v209, v210, v211, v212, x213, x214, x215, x216, x217, x218, x219, x220, x221, x222, x223, x224, x225, x226, x227, x228, x229, x230, x231, x232, x233, x234, x235, x236, x237, x238, x239, x240, x241, x242, x243, x244, x245, x246, x247, x248, x249, v250, v251, v252, v253, v254, v255, v256, v257, v258, v259, v260, v261, v262, v263, v264, v265, v266, v267, v268, v269, v270, v271, v272, v273], defers := [] } W) :
    Code.wp Tryd.prog (blockOf 10 Tryd.f4.body) Q { tmps := #[v0, v1, v2, v3, v4, v5, v6, .slice A1 8 c1, v8, v9, .pointer (some ⟨G, 0, none⟩), v11, .slice (some ⟨gv, 0, none⟩) 8 cap, v13, v14, v15, v16, v17, v18, .int .i64 0, v20, v21, v22, v23, v24, v25, v26, v27, v28, v29, v30, v31, v32, v33, v34, v35, v36, v37, v38, v39, v40, v41, v42, v43, v44, v45, v46, v47, v48, v49, v50, v51, v52, v53, v54, v55, v56, v57, v58, v59, v60, v61, v62, v63, v64, v65, v66, v67, v68, v69, v70, v71, v72, v73, v74, v75, v76, v77, v78, v79, v80, v81, v82, v83, v84, v85, v86, v87, v88, v89, v90, v91, v92, v93, v94, v95, v96, v97, v98, v99, v100, v101, v102, v103, v104, v105, v106, v107, v108, v109, v110, v111, v112, v113, v114, v115, v116, v117, v118, v119, v120, v121, v122, v123, v124, v125, v126, v127, v128, v129, v130, v131, v132, v133, v134, v135, v136, v137, v138, v139, v140, v141, v142, v143, v144, v145, v146, v147, v148, v149, v150, v151, v152, v153, v154, v155, v156, v157, v158, v159, v160, v161, v162, v163, v164, v165, v166, v167, v168, v169, v170, v171, v172, v173, v174, v175, v176, v177, v178, v179, v180, v181, v182, v183, v184, v185, v186, v187, v188, v189, v190, v191, v192, v193, v194, v195, v196, v197, v198, v199, v200, v201, v202, v203, v204, v205, v206, v207, v208, v209, v210, v211, v212, v213, v214, v215, v216, v217, v218, v219, v220, v221, v222, v223, v224, v225, v226, v227, v228, v229, v230, v231, v232, v233, v234, v235, v236, v237, v238, v239, v240, v241, v242, v243, v244, v245, v246, v247, v248, v249, v250, v251, v252, v253, v254, v255, v256, v257, v258, v259, v260, v261, v262, v263, v264, v265, v266, v267, v268, v269, v270, v271, v272, v273], defers := [] } wx := by
  conv => arg 2; whnf
  go_wp2_with fail
  go_loopw [19] (fun i wq => ∃ (j : Nat), j ≤ 8 ∧ i = .int .i64 (j : Int) ∧ St4 wq G gv s2 t2 vf2 os2 ot2 ∧ RepH wq G A1 hs ∧ Below w.heap.size w wq ∧ G ≤ wq.heap.size) (fun i _ => 8 - (intOf i).toNat)
  case atStart => exact ⟨0, by omega, rfl, h4x, hrepx, hbrx, hGlx⟩
  case round =>
    clear h4x hrepx hbrx hGlx
    obtain ⟨j, hj8, rfl, h4, hrep, hbr, hGl⟩ := hrel
    have hSl := h4.ms.lt
    have hVl := h4.mv.lt
    by_cases hj : j < 8
    · have j0 : (0 : Int) ≤ (j : Int) := by omega
      have j1 : (j : Int) < 8 := by omega
      have v0 := h4.mv.num j hj
      obtain ⟨x, hx⟩ : ∃ x, hs[j]? = some x := ⟨hs[j]'(by rw [HH.out]; exact hj), List.getElem?_eq_getElem (by rw [HH.out]; exact hj)⟩
      obtain ⟨bh, oh, hA1, hbG, hall⟩ := hrep (by intro h; rw [h] at hx; simp at hx)
      subst hA1
      obtain ⟨x0, x1⟩ := hall j x hx
      have hhome := HS2.out.home j hj
      rcases H8.each j hj with ⟨e0, e1, e2⟩ | ⟨e0, e1⟩
      · have hho := homeOf_nat hx
        rw [hho] at e0 e1 e2
        obtain ⟨sl, m⟩ := x
        simp only at e0 e1 x0 x1 e2
        subst e0
        obtain ⟨q, rfl⟩ : ∃ q : Nat, m = (q : Int) := ⟨m.toNat, by omega⟩
        have hql : locH hs j = q := by unfold locH; rw [hho]; simp
        rw [hql] at hhome
        have q0 : (0 : Int) ≤ (q : Int) := by omega
        have q1 : (q : Int) < 8 := by omega
        clear e1
        have u0 := h4.ms.num q (by omega)
        rw [hhome] at u0
        clear hx hho hall
        have hmin := fun ats ty => min7 ats ty (q : Int) (r := (q : Int)) (if_pos (by omega))
        go_wp2_with fail
        go_quiet (fail)
        go_wp2_with fail
        go_roundw
        case rel => refine ⟨j + 1, by omega, by go_num, h4.keep ((Keep.refl wr (fun _ => False)).drewN nq) (fun _ _ h => h), hrep.keepG ((Keep.refl wr (fun _ => False)).drewN nq) hGl (fun _ h => h.elim), below_keep hbr ((Keep.refl wr (fun _ => False)).drewN nq) (Nat.le_refl _) (fun _ h => h.elim), hGl⟩
        case measure => simp [intOf]; omega
      · have hho := homeOf_nat hx
        rw [hho] at e0 e1
        obtain ⟨sl, m⟩ := x
        simp only at e0 e1 x0 x1
        subst e0
        subst e1
        obtain ⟨q, hq⟩ : ∃ q : Nat, 5 + 3 * (j : Int) = (q : Int) := ⟨5 + 3 * j, by omega⟩
        have hql : locH hs j = 8 + q := by unfold locH; rw [hho]; simp; omega
        rw [hql] at hhome
        obtain ⟨r, hr, hr8⟩ : ∃ r : Nat, (if 3 * (j : Int) < 7 then 3 * (j : Int) else 7) = (r : Int) ∧ r < 8 := by
          by_cases h7 : 3 * (j : Int) < 7
          · exact ⟨3 * j, by rw [if_pos h7]; omega, by omega⟩
          · exact ⟨7, by rw [if_neg h7]; rfl, by omega⟩
        have hmin := fun ats ty => min7 ats ty (3 * (j : Int)) (r := (r : Int)) hr
        have q0 : (0 : Int) ≤ (q : Int) := by omega
        have q1 : (q : Int) < 40 := by omega
        have r0 : (0 : Int) ≤ (r : Int) := by omega
        have r1 : (r : Int) < 8 := by omega
        have hwq : IntKind.i64.wrap (q : Int) = (q : Int) := IntWalk.i64_in _ (by omega)
        have u0 := h4.ms.num r (by omega)
        have u1 := h4.ms.num (8 + q) (by omega)
        rw [hhome] at u1
        clear hx hho hall hr
        go_wp2_with fail
        go_quiet (fail)
        have h4y := h4.keep ((Keep.refl wr (fun _ => False)).drewN nq) (fun _ _ h => h)
        have hrepy := hrep.keepG ((Keep.refl wr (fun _ => False)).drewN nq) hGl (fun _ h => h.elim)
        have hbry := below_keep hbr ((Keep.refl wr (fun _ => False)).drewN nq) (Nat.le_refl _) (fun _ h => h.elim)
        have hGly : G ≤ (wr.drewN nq).heap.size := hGl
        have x0y : (wr.drewN nq).cell? ⟨bh, oh + j * 2, none⟩ = some (.bool true) := x0
        have x1y : (wr.drewN nq).cell? ⟨bh, oh + j * 2 + 1, none⟩ = some (.int .i64 (3 * (j : Int))) := x1
        have u1y : (wr.drewN nq).cell? ⟨G, 8 + q, none⟩ = some (.int .i32 (vf2 j)) := u1
        have v0y : (wr.drewN nq).cell? ⟨gv, j, none⟩ = some (.int .i32 (vf2 j)) := v0
        clear h4 hrep hbr hGl x0 x1 u0 u1 v0 hmin hSl hVl
        generalize wr.drewN nq = wy at *
        have hSl := h4y.ms.lt
        have hVl := h4y.mv.lt
        go_wp2_with fail
        go_quiet (fail)
        go_wp2_with fail
        go_roundw
        case rel => refine ⟨j + 1, by omega, by go_num, h4y.keep ((Keep.refl wy (fun _ => False)).drewN nq) (fun _ _ h => h), hrepy.keepG ((Keep.refl wy (fun _ => False)).drewN nq) hGly (fun _ h => h.elim), below_keep hbry ((Keep.refl wy (fun _ => False)).drewN nq) (Nat.le_refl _) (fun _ h => h.elim), hGly⟩
        case measure => simp [intOf]; omega
    · have hj8' : j = 8 := by omega
      subst hj8'
      go_wp2_with fail
      exact ⟨h4, hrep, hbr, hGl⟩
end Go.Proofs.YthkiajbgdamjgaaDoor

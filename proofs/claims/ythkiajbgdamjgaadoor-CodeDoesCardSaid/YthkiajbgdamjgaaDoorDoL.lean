/- The law CodeDoes: the machine's instructions do to homes what the instruction does to virtual registers. Conditions: two tables of the library as they are laid. -/
import Derived.Test.YthkiajbgdamjgaaDoorDoK
import Derived.Deep.DeepCutAuto
import Derived.Deep.CutBlock
namespace Go.Proofs.YthkiajbgdamjgaaDoor
set_option linter.unusedVariables false
open Go.RowKit
attribute [local irreducible] Blk


/-- What holds behind the main loop. -/
def End6 (w W : World) (G gv : Nat) (hs : List HV) : Prop := ∃ (s t : M) (vf : Nat → Int) (os ot : Value), Rel hs s t vf ∧ St4 W G gv s t vf os ot ∧ s.os.length ≤ 40 ∧ Below w.heap.size w W ∧ G ≤ W.heap.size
theorem End6.of {w W : World} {G gv : Nat} {hs : List HV} (h : ∃ (s t : M) (vf : Nat → Int) (os ot : Value), Rel hs s t vf ∧ St4 W G gv s t vf os ot ∧ s.os.length ≤ 40 ∧ Below w.heap.size w W ∧ G ≤ W.heap.size) : End6 w W G gv hs := h
theorem End6.out {w W : World} {G gv : Nat} {hs : List HV} (h : End6 w W G gv hs) : ∃ (s t : M) (vf : Nat → Int) (os ot : Value), Rel hs s t vf ∧ St4 W G gv s t vf os ot ∧ s.os.length ≤ 40 ∧ Below w.heap.size w W ∧ G ≤ W.heap.size := h

set_option maxRecDepth 100000 in
set_option maxHeartbeats 100000000 in
theorem stage6 (w wr : World) (G gv cap : Nat) (A A1 : Option Addr) (c c1 : Nat) (l : List R8) (hs : List HV) (fi f f' : Nat → Int) (K : Act → World → Prop) (Q : Exit → Act → World → Prop) (v1 v2 v3 v4 v5 v6 v8 v9 v13 v14 v16 v17 v18 v19 v20 v21 v22 v23 v24 v25 v26 v27 v28 v29 v30 v31 v32 v33 v34 v35 v36 v37 v38 v39 v40 v41 v42 v43 v44 v45 v46 v47 v48 v49 v50 v51 v52 v53 v54 v55 v56 v57 v58 v59 v60 v61 v62 v63 v64 v65 v66 v67 v68 v69 v70 v71 v72 v73 v74 v75 v76 v77 v78 v79 v80 v81 v82 v83 v84 v85 v86 v87 v88 v89 v90 v91 v92 v93 v94 v95 v96 v97 v98 v99 v100 v101 v102 v103 v104 v105 v106 v107 v108 v109 v110 v111 v112 v113 v114 v115 v116 v117 v118 v119 v120 v121 v122 v123 v124 v125 v126 v127 v128 v129 v130 v131 v132 v133 v134 v135 v136 v137 v138 v139 v140 v141 v142 v143 v144 v145 v146 v147 v148 v149 v150 v151 v152 v153 v154 v155 v156 v157 v158 v159 v160 v161 v162 v163 v164 v165 v166 v167 v168 v169 v170 v171 v172 v173 v174 v175 v176 v177 v178 v179 v180 v181 v182 v183 v184 v185 v186 v187 v188 v189 v190 v191 v192 v193 v194 v195 v196 v197 v198 v199 v200 v201 v202 v203 v204 v205 v206 v207 v208 v209 v210 v211 v212 v213 v214 v215 v216 v217 v218 v219 v220 v221 v222 v223 v224 v225 v226 v227 v228 v229 v230 v231 v232 v233 v234 v235 v236 v237 v238 v239 v240 v241 v242 v243 v244 v245 v246 v247 v248 v249 v250 v251 v252 v253 v254 v255 v256 v257 v258 v259 v260 v261 v262 v263 v264 v265 v266 v267 v268 v269 v270 v271 v272 v273 : Value)
    (HD : Hid (DrD w A l)) (hl : l.length ≤ 9223372036854775807) (H8 : HOk hs) (HH : Hid (hs.length = 8)) (hR0 : Rel hs ⟨f, [], 0⟩ ⟨f', [], 0⟩ fi) (h40 : St4 wr G gv ⟨f, [], 0⟩ ⟨f', [], 0⟩ fi (.slice none 0 0) (.slice none 0 0)) (hrep : RepH wr G A1 hs) (hbr : Below w.heap.size w wr) (hGl : G ≤ wr.heap.size) (hwG : w.heap.size + 2 ≤ G)
    (hK : ∀ (W : World) (x6 x15 x16 x17 x18 x19 x20 x120 x121 x122 x123 x124 x125 x126 x127 x128 x129 x130 x131 x132 x133 x134 x135 x136 x137 x138 x139 x140 x141 x142 x143 x144 x145 x146 x147 x148 x149 x150 x151 x152 x153 x154 x155 x156 x157 x158 x159 x160 x161 x162 x163 x164 x165 x166 x167 x168 x169 x170 x171 x172 x173 x174 x175 x176 x177 x178 x179 x180 x181 x182 x183 x184 x185 x186 x187 x188 x189 x190 x191 x192 x193 x194 x195 x196 x197 x198 x199 x200 x201 x202 x203 x204 x205 x206 x207 x208 x209 x210 x211 x212 x213 x214 x215 x216 x217 x218 x219 x220 x221 x222 x223 x224 x225 x226 x227 x228 x229 x230 x231 x232 x233 x234 x235 x236 x237 x238 x239 x240 x241 x242 x243 x244 x245 x246 x247 x248 x249 : Value), End6 w W G gv hs → K { tmps := #[.slice A l.length c, v1, v2, v3, v4, v5, x6, .slice A1 8 c1, v8, v9, .pointer (some ⟨G, 0, none⟩), .pointer (some ⟨G + 1, 0, none⟩), .slice (some ⟨gv, 0, none⟩) 8 cap, v13, v14, x15, x16, x17, x18, x19, x20, v21, v22, v23, v24, v25, v26, v27, v28, v29, v30, v31, v32, v33, v34, v35, v36, v37, v38, v39, v40, v41, v42, v43, v44, v45, v46, v47, v48, v49, v50, v51, v52, v53, v54, v55, v56, v57, v58, v59, v60, v61, v62, v63, v64, v65, v66, v67, v68, v69, v70, v71, v72, v73, v74, v75, v76, v77, v78, v79, v80, v81, v82, v83, v84, v85, v86, v87, v88, v89, v90, v91, v92, v93, v94, v95, v96, v97, v98, v99, v100, v101, v102, v103, v104, v105, v106, v107, v108, v109, v110, v111, v112, v113, v114, v115, v116, v117, v118, v119, x120, x121, x122, x123, x124, x125, x126, x127, x128, x129, x130, x131, x132, x133, x134, x135, x136, x137, x138, x139, x140, x141, x142, x143, x144, x145, x146, x147, x148, x149, x150, x151, x152, x153, x154, x155, x156, x157, x158, x159, x160, x161, x162, x163, x164, x165, x166, x167, x168, x169, x170, x171, x172, x173, x174, x175, x176, x177, x178, x179, x180, x181, x182, x183, x184, x185, x186, x187, x188, x189, x190, x191, x192, x193, x194, x195, x196, x197, x198, x199, x200, x201, x202, x203, x204, x205, x206, x207, x208, x209, x210, x211, x212, x213, x214, x215, x216, x217, x218, x219, x220, x221, x222, x223, x224, x225, x226, x227, x228, x229, x230, x231, x232, x233, x234, x235, x236, x237, x238, x239, x240, x241, x242, x243, x244, x245, x246, x247, x248, x249, v250, v251, v252, v253, v254, v255, v256, v257, v258, v259, v260, v261, v262, v263, v264, v265, v266, v267, v268, v269, v270, v271, v272, v273], defers := [] } W) :
    Code.wp Tryd.prog (blockOf 6 Tryd.f4.body) (Exit.then K Q) { tmps := #[.slice A l.length c, v1, v2, v3, v4, v5, v6, .slice A1 8 c1, v8, v9, .pointer (some ⟨G, 0, none⟩), .pointer (some ⟨G + 1, 0, none⟩), .slice (some ⟨gv, 0, none⟩) 8 cap, v13, v14, .int .i64 0, v16, v17, v18, v19, v20, v21, v22, v23, v24, v25, v26, v27, v28, v29, v30, v31, v32, v33, v34, v35, v36, v37, v38, v39, v40, v41, v42, v43, v44, v45, v46, v47, v48, v49, v50, v51, v52, v53, v54, v55, v56, v57, v58, v59, v60, v61, v62, v63, v64, v65, v66, v67, v68, v69, v70, v71, v72, v73, v74, v75, v76, v77, v78, v79, v80, v81, v82, v83, v84, v85, v86, v87, v88, v89, v90, v91, v92, v93, v94, v95, v96, v97, v98, v99, v100, v101, v102, v103, v104, v105, v106, v107, v108, v109, v110, v111, v112, v113, v114, v115, v116, v117, v118, v119, v120, v121, v122, v123, v124, v125, v126, v127, v128, v129, v130, v131, v132, v133, v134, v135, v136, v137, v138, v139, v140, v141, v142, v143, v144, v145, v146, v147, v148, v149, v150, v151, v152, v153, v154, v155, v156, v157, v158, v159, v160, v161, v162, v163, v164, v165, v166, v167, v168, v169, v170, v171, v172, v173, v174, v175, v176, v177, v178, v179, v180, v181, v182, v183, v184, v185, v186, v187, v188, v189, v190, v191, v192, v193, v194, v195, v196, v197, v198, v199, v200, v201, v202, v203, v204, v205, v206, v207, v208, v209, v210, v211, v212, v213, v214, v215, v216, v217, v218, v219, v220, v221, v222, v223, v224, v225, v226, v227, v228, v229, v230, v231, v232, v233, v234, v235, v236, v237, v238, v239, v240, v241, v242, v243, v244, v245, v246, v247, v248, v249, v250, v251, v252, v253, v254, v255, v256, v257, v258, v259, v260, v261, v262, v263, v264, v265, v266, v267, v268, v269, v270, v271, v272, v273], defers := [] } wr := by
  conv => arg 2; whnf
  go_wp2_with fail
  go_loopw [15] (fun i wq => ∃ (n : Nat) (s t : M) (vf : Nat → Int) (os ot : Value), n ≤ 20 ∧ n ≤ l.length ∧ i = .int .i64 (n : Int) ∧ Rel hs s t vf ∧ St4 wq G gv s t vf os ot ∧ s.os.length ≤ 2 * n ∧ RepH wq G A1 hs ∧ Below w.heap.size w wq ∧ G ≤ wq.heap.size) (fun i _ => 20 - (intOf i).toNat)
  case atStart => exact ⟨0, _, _, _, _, _, by omega, by omega, rfl, hR0, h40, by simp, hrep, hbr, hGl⟩
  case round =>
    clear hR0 h40 hrep hbr hGl
    obtain ⟨n, s, t, vf, os, ot, hn20, hnl, rfl, hR, h4, hsl, hrep, hbr, hGl⟩ := hrel
    have hgo : (n < l.length ∧ n < 20 ∧ t.tr = 0) ∨ ¬ n < l.length ∨ (n < l.length ∧ ¬ n < 20) ∨ (n < l.length ∧ n < 20 ∧ t.tr ≠ 0) := by omega
    have n0 : (0 : Int) ≤ (n : Int) := by omega
    have hTl := h4.mt.lt
    have c73 := h4.mt.trap
    rcases hgo with ⟨g1, g2, g3⟩ | hgo
    · rw [g3] at c73
      have n1 : (n : Int) < (l.length : Int) := by omega
      have n2 : (n : Int) < 20 := by omega
      obtain ⟨x, hx⟩ : ∃ x, l[n]? = some x := ⟨l[n], List.getElem?_eq_getElem g1⟩
      obtain ⟨b, o, rfl, hbl, hall⟩ := HD.out (by intro h; rw [h] at g1; simp at g1)
      obtain ⟨hcs, hxo⟩ := hall n x hx
      have y0 := (hbr.cell (p := ⟨b, _, none⟩) hbl).trans (hcs 0 _ rfl)
      have y1 := (hbr.cell (p := ⟨b, _, none⟩) hbl).trans (hcs 1 _ rfl)
      have y2 := (hbr.cell (p := ⟨b, _, none⟩) hbl).trans (hcs 2 _ rfl)
      have y3 := (hbr.cell (p := ⟨b, _, none⟩) hbl).trans (hcs 3 _ rfl)
      have y4 := (hbr.cell (p := ⟨b, _, none⟩) hbl).trans (hcs 4 _ rfl)
      have y5 := (hbr.cell (p := ⟨b, _, none⟩) hbl).trans (hcs 5 _ rfl)
      have y6 := (hbr.cell (p := ⟨b, _, none⟩) hbl).trans (hcs 6 _ rfl)
      have y7 := (hbr.cell (p := ⟨b, _, none⟩) hbl).trans (hcs 7 _ rfl)
      have hbl2 : b < wr.heap.size := Nat.lt_of_lt_of_le hbl hbr.size
      rw [Nat.add_zero] at y0
      have hwG2 : w.heap.size ≤ wr.heap.size := hbr.size
      have hwG3 : w.heap.size ≤ G := by omega
      have hol : t.os.length < 1000000000 := by rw [← hR.os]; omega
      clear hall hx hcs
      go_wp2_with (go_at_call 12; refine (ins_any wr _ _ _ _ _ _ _ _ hxo.o.1 hxo.o.2 hxo.p.1 hxo.p.2 hxo.t.1 hxo.t.2 hxo.d.1 hxo.d.2 hxo.a.1 hxo.a.2 hxo.b.1 hxo.b.2 hxo.n.1 hxo.n.2 hxo.m.1 hxo.m.2).mono ?_; rintro e w2 ⟨D, hDok, rfl, hb2⟩)
      have kb2 : Keep wr w2 (fun k => wr.heap.size ≤ k) := Keep.of_below hb2
      have h4b := h4.far hb2
      have hrepb := hrep.keepG kb2 hGl (fun k hk => by omega)
      have hbrb := below_keep hbr kb2 hwG2 (fun k hk => by omega)
      have hGlb := Nat.le_trans hGl hb2.size
      have geb := fun k (h : k = G + 1 ∨ k = gv ∨ ot.ownBlock = some k) => h4b.geT h
      have hI := Blk.new w2 23 #[.int .i64 (D.op : Int), .int .i64 (D.op2 : Int), .int .i64 (D.ty : Int), .int .i64 (D.d : Int), .int .i64 (D.a : Int), .int .i64 (D.b : Int), .int .i64 (D.n : Int), .int .i64 (D.count : Int), .int .i64 0]
      have kc : Keep w2 (w2.alloc (.cells #[.int .i64 (D.op : Int), .int .i64 (D.op2 : Int), .int .i64 (D.ty : Int), .int .i64 (D.d : Int), .int .i64 (D.a : Int), .int .i64 (D.b : Int), .int .i64 (D.n : Int), .int .i64 (D.count : Int), .int .i64 0] 23)) (fun _ => False) := (Keep.refl _ _).alloc _
      have h4c := h4b.keep kc (fun _ _ h => h)
      have hrepc := hrepb.keepG kc hGlb (fun _ h => h.elim)
      have hbrc := below_keep hbrb kc (Nat.le_refl _) (fun _ h => h.elim)
      have hGlc := Nat.le_trans hGlb kc.size
      obtain ⟨gi, hgi⟩ : ∃ gi, w2.heap.size = gi := ⟨_, rfl⟩
      rw [hgi] at hI
      clear h4 h4b hrep hrepb hbr hbrb hGl hGlb kb2 kc y0 y1 y2 y3 y4 y5 y6 y7 c73 hTl hbl2 hb2 hbl hxo n1 n2
      generalize (w2.alloc (.cells #[.int .i64 (D.op : Int), .int .i64 (D.op2 : Int), .int .i64 (D.ty : Int), .int .i64 (D.d : Int), .int .i64 (D.a : Int), .int .i64 (D.b : Int), .int .i64 (D.n : Int), .int .i64 (D.count : Int), .int .i64 0] 23)) = w3 at *
      go_wp2_with (go_at_call 13; refine (means_any w3 (G + 1) gv cap (G + 2) D hDok t vf ot h4c.mt h4c.mv h4c.rot (by have := h4c.hgv; omega) (fun h => by have := h4c.rot.ge h; omega) h4c.tv hol).mono ?_; intro e w4 hm; obtain ⟨ot2, rfl, h4d, kd, fd⟩ := h4c.means (t' := (meansM D t vf).1) hm; have hI4 := kd.blk hI (fun h => by have := geb _ h; omega); have q0 := hI4.cell 0; have q1 := hI4.cell 1; have q2 := hI4.cell 2; have q3 := hI4.cell 3; have q4 := hI4.cell 4; have q5 := hI4.cell 5; have q6 := hI4.cell 6; have q7 := hI4.cell 7; have q8 := hI4.cell 8; simp at q0 q1 q2 q3 q4 q5 q6 q7 q8; have hIl := hI4.lt)
      have hrepd := hrepc.keepG kd hGlc (fun k hk => (h4c.geT hk).1)
      have hbrd := below_keep hbrc kd hwG3 (fun k hk => (h4c.geT hk).1)
      have hGld := Nat.le_trans hGlc kd.size
      have HS := sim H8 D hDok hR (by rw [hR.tr, g3])
      have hsel := select_any w4 D.ins A1 hs c1 5 (hrepd.up hGld) (by rw [HH.out]; omega)
      rw [HH.out] at hsel
      change Calls _ _ #[.agg #[.int .i64 (D.op : Int), .int .i64 (D.op2 : Int), .int .i64 (D.ty : Int), .int .i64 (D.d : Int), .int .i64 (D.a : Int), .int .i64 (D.b : Int), .int .i64 (D.n : Int), .int .i64 (D.count : Int), .int .i64 0], .slice A1 8 c1, .int .i64 5] w4 (Selects w4 (selL D.ins hs 5)) at hsel
      clear h4c hrepc hbrc hGlc geb kd fd hI hgi hI4
      have hLok := selL_ok H8 D hDok
      have hL4 := selL_len4 D.ins hs 5
      have htl := meansM_len D t vf
      have hst : s.tr = 0 := by rw [hR.tr, g3]
      have hslt : s.os.length = t.os.length := by rw [hR.os]
      generalize selL D.ins hs 5 = L at *
      generalize (meansM D t vf).1 = t2 at *
      generalize (meansM D t vf).2 = vf2 at *
      have hos := fun k (hk : os.ownBlock = some k) => (h4d.ros.ge hk).2
      have hGlt := h4d.ms.lt
      have hwG4 : w.heap.size ≤ w4.heap.size := by omega
      have hLOK := Lib.hid hLok
      clear hLok
      go_upto_block 8 with (go_at_call 9; refine hsel.mono ?_; rintro e w5 ⟨ov, rfl, hown5, hb5⟩; obtain ⟨A2, c2, rfl, hC5⟩ := CodesB.of_own hown5 hos hGlt)
      go_cut [18] from 120 to 249 (fun kk wx => ∃ (os2 : Value), St4 wx G gv (runM L s) t2 vf2 os2 ot2 ∧ RepH wx G A1 hs ∧ Below w.heap.size w wx ∧ G ≤ wx.heap.size)
      -- DONE
      case first =>
        have kb5 : Keep w4 w5 (fun k => w4.heap.size ≤ k) := Keep.of_below hb5
        have h45 := h4d.far hb5
        have hrep5 := hrepd.keepG kb5 hGld (fun k hk => by omega)
        have hbr5 := below_keep hbrd kb5 hwG4 (fun k hk => by omega)
        have hGl5 := Nat.le_trans hGld hb5.size
        clear h4d hrepd hbrd hGld kb5 hb5 hown5 hsel hos q0 q1 q2 q3 q4 q5 q6 q7 q8 hIl
        go_wp2_with fail
        go_loopw [18] (fun i wq => ∃ (j : Nat) (s1 : M) (os1 : Value), j ≤ L.length ∧ i = .int .i64 (j : Int) ∧ runM (L.drop j) s1 = runM L s ∧ St4 wq G gv s1 t2 vf2 os1 ot2 ∧ s1.os.length ≤ 2 * n + 2 * j ∧ CodesB wq A2 L os1 G ∧ RepH wq G A1 hs ∧ Below w.heap.size w wq ∧ G ≤ wq.heap.size) (fun i _ => L.length - (intOf i).toNat)
        case atStart => exact ⟨0, s, os, by omega, rfl, rfl, h45, by omega, hC5, hrep5, hbr5, hGl5⟩
        case round =>
          clear h45 hC5 hrep5 hbr5 hGl5
          obtain ⟨j, s1, os1, hjL, rfl, hrun, h4, hsl1, hC, hrep, hbr, hGl⟩ := hrel
          have c73 := h4.ms.trap
          have hSl := h4.ms.lt
          have j0 : (0 : Int) ≤ (j : Int) := by omega
          have hgo : (j < L.length ∧ s1.tr = 0) ∨ (¬ j < L.length) ∨ (j < L.length ∧ s1.tr ≠ 0) := by omega
          rcases hgo with ⟨g4, g5⟩ | g4 | ⟨g4, g5⟩
          · rw [g5] at c73
            have j1 : (j : Int) < (L.length : Int) := by omega
            obtain ⟨ci, hci⟩ : ∃ ci, L[j]? = some ci := ⟨L[j], List.getElem?_eq_getElem g4⟩
            obtain ⟨bc, rfl, hbcl, hbcG, hbco, hcall⟩ := hC (by intro h; rw [h] at g4; simp at g4)
            have z0 := hcall j ci hci 0 _ rfl
            have z1 := hcall j ci hci 1 _ rfl
            have z2 := hcall j ci hci 2 _ rfl
            have z3 := hcall j ci hci 3 _ rfl
            have z4 := hcall j ci hci 4 _ rfl
            rw [Nat.add_zero] at z0
            clear hcall
            have hog : os1.ownBlock ≠ some G := fun h => by have := h4.ros.ge h; omega
            have hol2 : s1.os.length < 1000000000 := by omega
            go_wp2_with (go_at_call 14; refine (do_any _ G (G + 2) ci (get_ok hLOK.out hci) s1 os1 h4.ms h4.ros hog hol2).mono ?_; intro e w6 hm; obtain ⟨os2, rfl, h46, kd, fd⟩ := h4.does (s' := doM ci s1) hm)
            go_roundw
            case rel => exact ⟨j + 1, doM ci s1, os2, by omega, by go_num, runM_step hci g5 hrun, h46, by have := doM_len ci s1; omega, hC.does kd fd, hrep.keepG kd hGl (fun k hk => (h4.geS hk).1), below_keep hbr kd hwG3 (fun k hk => (h4.geS hk).1), Nat.le_trans hGl kd.size⟩
            case measure => simp [intOf]; omega
          · have hn : ¬ ((j : Int) < (L.length : Int)) := by omega
            have he := runM_end hrun (.inl (by omega))
            subst he
            go_wp2_with fail
            go_meet
            exact ⟨os1, h4, hrep, hbr, hGl⟩
          · have j1 : (j : Int) < (L.length : Int) := by omega
            have hn : decide (s1.tr = 0) = false := by simpa using g5
            have hn2 : (s1.tr == 0) = false := by simpa using g5
            have he := runM_end hrun (.inr g5)
            subst he
            go_wp2_with fail
            go_meet
            exact ⟨os1, h4, hrep, hbr, hGl⟩
      case rest =>
        obtain ⟨os2, h4, hrep, hbr, hGl⟩ := hcut
        generalize runM L s = s2 at *
        go_upto_region 36 with fail
        go_cut [212] from 120 to 249 (fun bb wx => bb = .bool false ∧ ∃ nq, wx = wc.drewN nq)
        -- DONE
        case first =>
          refine stage36 _ _ _ _ _ _ _ _ _ _ _ _ _ _ _ _ _ _ _ _ _ _ _ _ _ _ _ _ _ _ _ _ _ _ _ _ _ _ _ _ _ _ _ _ _ _ _ _ _ _ _ _ _ _ _ _ _ _ _ _ _ _ _ _ _ _ _ _ _ _ _ _ _ _ _ _ _ _ _ _ _ _ _ _ _ _ _ _ _ _ _ _ _ _ _ _ _ _ _ _ _ _ _ _ _ _ _ _ _ _ _ _ _ _ _ _ _ _ _ _ _ _ _ _ _ _ _ _ _ _ _ _ _ _ _ _ _ _ _ _ _ _ _ _ _ _ _ _ _ _ _ _ _ _ _ _ _ _ _ _ _ _ _ _ _ _ _ _ _ _ _ _ _ _ _ _ _ _ _ _ _ _ _ _ _ _ _ _ _ _ _ _ _ _ _ _ _ _ _ _ _ _ _ _ _ _ _ _ _ _ _ _ _ _ _ _ _ _ _ _ _ _ _ _ _ _ _ _ _ _ _ _ _ _ _ _ _ _ _ _ _ _ _ _ _ _ _ _ _ _ _ _ _ _ _ _ _ _ _ _ _ _ _ _ _ _ _ _ _ _ _ _ _ _ _ _ _ _ _ _ _ _ _ HS h4 ?_
          intro W x169 x170 x171 x172 x173 x174 x175 x176 x177 x178 x179 x180 x181 x182 x183 x184 x185 x186 x187 x188 x189 x190 x191 x192 x193 x194 x195 x196 x197 x198 x199 x200 x201 x202 x203 x204 x205 x206 x207 x208 x209 x210 x211 hW
          obtain ⟨nq, rfl⟩ := hW
          go_step
          go_meet
          exact ⟨rfl, _, rfl⟩
        case rest =>
          obtain ⟨rfl, nq, rfl⟩ := hcut
          have h4x : St4 (wc.drewN nq) G gv s2 t2 vf2 os2 ot2 := h4.keep ((Keep.refl wc (fun _ => False)).drewN nq) (fun _ _ h => h)
          have hrepx := hrep.keepG ((Keep.refl wc (fun _ => False)).drewN nq) hGl (fun _ h => h.elim)
          have hbrx := below_keep hbr ((Keep.refl wc (fun _ => False)).drewN nq) (Nat.le_refl _) (fun _ h => h.elim)
          have hGlx : G ≤ (wc.drewN nq).heap.size := hGl
          clear h4 hrep hbr hGl
          generalize wc.drewN nq = wx at *
          have HS2 := Lib.hid HS
          clear HS
          go_upto_block 10 with fail
          refine stage10 w _ _ _ _ _ _ _ _ _ _ _ _ _ _ _ _ _ _ _ _ _ _ _ _ _ _ _ _ _ _ _ _ _ _ _ _ _ _ _ _ _ _ _ _ _ _ _ _ _ _ _ _ _ _ _ _ _ _ _ _ _ _ _ _ _ _ _ _ _ _ _ _ _ _ _ _ _ _ _ _ _ _ _ _ _ _ _ _ _ _ _ _ _ _ _ _ _ _ _ _ _ _ _ _ _ _ _ _ _ _ _ _ _ _ _ _ _ _ _ _ _ _ _ _ _ _ _ _ _ _ _ _ _ _ _ _ _ _ _ _ _ _ _ _ _ _ _ _ _ _ _ _ _ _ _ _ _ _ _ _ _ _ _ _ _ _ _ _ _ _ _ _ _ _ _ _ _ _ _ _ _ _ _ _ _ _ _ _ _ _ _ _ _ _ _ _ _ _ _ _ _ _ _ _ _ _ _ _ _ _ _ _ _ _ _ _ _ _ _ _ _ _ _ _ _ _ _ _ _ _ _ _ _ _ _ _ _ _ _ _ _ _ _ _ _ _ _ _ _ _ _ _ _ _ _ _ _ _ _ _ _ _ _ _ _ _ _ _ _ _ _ _ _ _ _ _ _ _ _ _ _ _ _ H8 HH HS2 h4x hrepx hbrx hGlx hwG ?_
          clear h4x hrepx hbrx hGlx
          intro W x6 x19 x20 x213 x214 x215 x216 x217 x218 x219 x220 x221 x222 x223 x224 x225 x226 x227 x228 x229 x230 x231 x232 x233 x234 x235 x236 x237 x238 x239 x240 x241 x242 x243 x244 x245 x246 x247 x248 x249 hW
          obtain ⟨h4, hrep, hbr, hGl⟩ := hW
          go_wp2_with fail
          go_roundw
          case rel => exact ⟨n + 1, s2, t2, vf2, os2, ot2, by omega, by omega, by go_num, HS2.out, h4, by rw [HS2.out.os]; omega, hrep, hbr, hGl⟩
          case measure => simp [intOf]; omega
    · rcases hgo with g1 | ⟨g1, g2⟩ | ⟨g1, g2, g3⟩
      · have n1 : ¬ ((n : Int) < (l.length : Int)) := by omega
        go_wp2_with fail
        exact End6.of ⟨s, t, vf, os, ot, hR, h4, by omega, hbr, hGl⟩
      · have n1 : (n : Int) < (l.length : Int) := by omega
        have n2 : ¬ ((n : Int) < 20) := by omega
        go_wp2_with fail
        exact End6.of ⟨s, t, vf, os, ot, hR, h4, by omega, hbr, hGl⟩
      · have n1 : (n : Int) < (l.length : Int) := by omega
        have n2 : (n : Int) < 20 := by omega
        have n3 : decide (t.tr = 0) = false := by simpa using g3
        have n4 : (t.tr == 0) = false := by simpa using g3
        go_wp2_with fail
        exact End6.of ⟨s, t, vf, os, ot, hR, h4, by omega, hbr, hGl⟩

set_option maxRecDepth 100000 in
set_option maxHeartbeats 100000000 in
theorem codeDoes_any (B : Nat) (w : World) (A : Option Addr) (l : List R8) (c : Nat) (wh fi : Nat → Int) (hT : Tabs B w) (hB : B ≤ w.heap.size) (hd : DrD w A l) (hl : l.length ≤ 9223372036854775807)
    (hw8 : ∀ k, k < 8 → 0 ≤ wh k ∧ wh k ≤ 255) (hf8 : ∀ k, k < 8 → -2147483648 ≤ fi k ∧ fi k ≤ 2147483647) :
    Calls Tryd.prog 4 #[.slice A l.length c, .agg (c8 .u8 wh), .agg (c8 .i32 fi)] w fun e w' => e = .returned (.bool true) ∧ Below w.heap.size w w' := by
  have hWK := fun W (h : Below w.heap.size w W) => works_any B W (hT.below (h.mono hB)) (Nat.le_trans hB h.size)
  have WK := Lib.hid hWK
  have HD := Lib.hid hd
  clear hWK hd
  obtain ⟨i0, hi0, hz0, hz1, hz2⟩ := info_parts infoHome
  have HI := Lib.hid (⟨hi0, hz0, hz1, hz2⟩ : _ ∧ _ ∧ _ ∧ _)
  clear hi0 hz0 hz1 hz2
  obtain ⟨j0, hi0, hz0, hz1, hz2⟩ := info_parts infoI32
  have HJ := Lib.hid (⟨hi0, hz0, hz1, hz2⟩ : _ ∧ _ ∧ _ ∧ _)
  clear hi0 hz0 hz1 hz2
  go_enter Tryd.func4, Tryd.ntmps4
  go_wp2_with fail
  refine (WK.out _ (((Below.refl _ _).alloc (Nat.le_refl _) _).alloc (by simp) _)).mono ?_
  rintro e w1 ⟨rfl, hb1⟩
  have hX1 : Blk w1 w.heap.size 33 (c8 .u8 wh) := ((Blk.new w _ _).alloc _).to hb1
  have hF1 : Blk w1 (w.heap.size + 1) 34 (c8 .i32 fi) := (Blk.newAt (by simp)).to hb1
  have hbw1 : Below w.heap.size w w1 := bl_next (((Below.refl _ _).alloc (Nat.le_refl _) _).alloc (by simp) _) hb1 (Nat.le_refl _)
  clear hb1
  go_wp2_with fail
  go_loopw [7, 8, 9] (fun h f v wr => ∃ (k fr : Nat) (hs : List HV), k ≤ 8 ∧ v = .int .i64 (k : Int) ∧ f = .int .i64 (fr : Int) ∧ hs.length = k ∧ fr ≤ 6 ∧ HP hs fr ∧ wr.ownsRow (w.heap.size + 2) 36 2 h k (hvCells hs) ∧ Below w.heap.size w wr ∧ Blk wr w.heap.size 33 (c8 .u8 wh) ∧ Blk wr (w.heap.size + 1) 34 (c8 .i32 fi)) (fun _ _ v _ => 8 - (intOf v).toNat)
  case atStart => exact ⟨0, 0, [], by omega, rfl, rfl, rfl, by omega, HP.nil, World.ownsRow_nil _ _ _ _, hbw1, hX1, hF1⟩
  case round =>
    clear hX1 hF1 hbw1
    obtain ⟨k, fr, hs, hk8, rfl, rfl, hhs, hfr, hHP, hown, hbr, hX, hF⟩ := hrel
    have hbs := hbr.size
    have HH := Lib.hid hhs
    have HPP := Lib.hid hHP
    have hXl := hX.lt
    have hFl := hF.lt
    clear hhs hHP
    by_cases hk : k < 8
    -- DONE
    · have y0 := cell_of_blk hX (c8_get .u8 wh hk)
      have k0 : (0 : Int) ≤ (k : Int) := by omega
      have k1 : (k : Int) < 8 := by omega
      have wb := (hw8 k hk).1
      have wb2 := (hw8 k hk).2
      by_cases hreg : wh k % 2 = 0 ∧ fr < 6
      · obtain ⟨hev, hf6⟩ := hreg
        have hf6' : (fr : Int) < 6 := by omega
        go_wp2_with (at_builtin; refine wpList_append_lies _ rfl (.tmp 37) (.tmp 40) _ rfl (w.heap.size + 2) 36 i0 _ 2 16 Tryd.underlying25 HI.out.1 HI.out.2.1 HI.out.2.2.1 HI.out.2.2.2 rfl (by omega) _ k _ rfl (hown.alloc _) ⟨wr.heap.size, 0, none⟩ 1 1 [.bool false, .int .i64 (fr : Int)] rfl rfl (World.news_of_block (cs := #[.bool false, .int .i64 (fr : Int)]) (t := 36) (fr := (0, 0)) (heap_alloc_new wr _)) (by simp [Value.oneCell']) (by omega) (by unfold maxLen; omega) (by omega) (by simp; omega) (wr.heap.size + 1) (by simp) ?_; intro gg cap w3 hown3 hgrow hat hlt3; clear hat hlt3)
        go_roundw
        case rel =>
          have hlow := fun j hj => (hown.lt j hj).1
          have hlow2 := fun j (hj : some j = _) => (hown.lt j hj.symm).1
          refine ⟨k + 1, fr + 1, hs ++ [⟨false, (fr : Int)⟩], by omega, by go_num, by go_num, by rw [List.length_append, HH.out]; rfl, by omega, HPP.out.reg, ?_, ((hbr.alloc hbs _)).grown hgrow (by simp; omega) (fun j hj => by have := hlow j hj; omega), (hX.alloc _).grown hgrow (fun hj => by have := hlow2 _ hj; omega), (hF.alloc _).grown hgrow (fun hj => by have := hlow2 _ hj; omega)⟩
          rw [hvCells_append]
          exact hown3
        case measure => simp [intOf]; omega
      · have hslot : (decide (wh k % 2 = 0) && decide ((fr : Int) < 6)) = false := by
          rcases Classical.em (wh k % 2 = 0) with h | h
          · have : ¬ fr < 6 := fun h6 => hreg ⟨h, h6⟩
            simp; omega
          · simp [h]
        by_cases hev : wh k % 2 = 0
        · have hf6' : ¬ ((fr : Int) < 6) := fun h => hreg ⟨hev, by omega⟩
          clear hreg hslot
          go_wp2_with (at_builtin; refine wpList_append_lies _ rfl (.tmp 44) (.tmp 48) _ rfl (w.heap.size + 2) 36 i0 _ 2 16 Tryd.underlying25 HI.out.1 HI.out.2.1 HI.out.2.2.1 HI.out.2.2.2 rfl (by omega) _ k _ rfl (hown.alloc _) ⟨wr.heap.size, 0, none⟩ 1 1 [.bool true, .int .i64 (3 * (k : Int))] rfl rfl (World.news_of_block (cs := #[.bool true, .int .i64 (3 * (k : Int))]) (t := 36) (fr := (0, 0)) (heap_alloc_new wr _)) (by simp [Value.oneCell']) (by omega) (by unfold maxLen; omega) (by omega) (by simp; omega) (wr.heap.size + 1) (by simp) ?_; intro gg cap w3 hown3 hgrow hat hlt3; clear hat hlt3)
          go_roundw
          case rel =>
            have hlow := fun j hj => (hown.lt j hj).1
            have hlow2 := fun j (hj : some j = _) => (hown.lt j hj.symm).1
            refine ⟨k + 1, fr, hs ++ [⟨true, 3 * (k : Int)⟩], by omega, by go_num, rfl, by rw [List.length_append, HH.out]; rfl, by omega, by rw [← HH.out]; exact HPP.out.slot, ?_, ((hbr.alloc hbs _)).grown hgrow (by simp; omega) (fun j hj => by have := hlow j hj; omega), (hX.alloc _).grown hgrow (fun hj => by have := hlow2 _ hj; omega), (hF.alloc _).grown hgrow (fun hj => by have := hlow2 _ hj; omega)⟩
            rw [hvCells_append]
            exact hown3
          case measure => simp [intOf]; omega
        · clear hreg hslot
          go_wp2_with (at_builtin; refine wpList_append_lies _ rfl (.tmp 44) (.tmp 48) _ rfl (w.heap.size + 2) 36 i0 _ 2 16 Tryd.underlying25 HI.out.1 HI.out.2.1 HI.out.2.2.1 HI.out.2.2.2 rfl (by omega) _ k _ rfl (hown.alloc _) ⟨wr.heap.size, 0, none⟩ 1 1 [.bool true, .int .i64 (3 * (k : Int))] rfl rfl (World.news_of_block (cs := #[.bool true, .int .i64 (3 * (k : Int))]) (t := 36) (fr := (0, 0)) (heap_alloc_new wr _)) (by simp [Value.oneCell']) (by omega) (by unfold maxLen; omega) (by omega) (by simp; omega) (wr.heap.size + 1) (by simp) ?_; intro gg cap w3 hown3 hgrow hat hlt3; clear hat hlt3)
          go_roundw
          case rel =>
            have hlow := fun j hj => (hown.lt j hj).1
            have hlow2 := fun j (hj : some j = _) => (hown.lt j hj.symm).1
            refine ⟨k + 1, fr, hs ++ [⟨true, 3 * (k : Int)⟩], by omega, by go_num, rfl, by rw [List.length_append, HH.out]; rfl, by omega, by rw [← HH.out]; exact HPP.out.slot, ?_, ((hbr.alloc hbs _)).grown hgrow (by simp; omega) (fun j hj => by have := hlow j hj; omega), (hX.alloc _).grown hgrow (fun hj => by have := hlow2 _ hj; omega), (hF.alloc _).grown hgrow (fun hj => by have := hlow2 _ hj; omega)⟩
            rw [hvCells_append]
            exact hown3
          case measure => simp [intOf]; omega
    · have hk8' : k = 8 := by omega
      subst hk8'
      have H8 := HPP.out.ok HH.out hfr
      obtain ⟨A1, c1, e1, hrep⟩ := RepH.of_own (by rw [HH.out]; exact hown)
      rw [HH.out] at e1
      subst e1
      go_wp2_with (at_builtin; refine wpList_append_lies _ rfl (.tmp 54) (.tmp 55) 40 rfl (wr.heap.size + 2) 21 j0 _ 1 4 Tryd.underlying40 HJ.out.1 HJ.out.2.1 HJ.out.2.2.1 HJ.out.2.2.2 ?hz ?hp (.slice (some ⟨wr.heap.size + 1 + 1, 0, none⟩) 0 0) 0 [] ?hs ?own ⟨w.heap.size + 1, 0, none⟩ 8 8 (c8 .i32 fi).toList ?sl ?ln ?news ?one ?e0 ?e1 ?e2 ?e3 (wr.heap.size + 1 + 1 + 1) ?e4 ?rest)
      case hz => rfl
      case hp => omega
      case hs => rfl
      case sl => rfl
      case ln => rfl
      case e0 => omega
      case e1 => unfold maxLen; omega
      case e2 => omega
      case e3 => simp only [World.size_alloc]; omega
      case e4 => simp only [World.size_alloc]
      case own => exact ⟨rfl, .inr ⟨wr.heap.size + 1 + 1, 0, #[], rfl, by omega, Blk.heap (Blk.newAt (by simp)), by omega, by unfold maxLen; omega, rfl, rfl⟩⟩
      case news => exact World.news_of_block (Blk.heap (((hF.alloc _).alloc _).alloc _))
      case one => simp [c8, Value.oneCell']
      case rest =>
        intro gv cap w3 hown3 hgrow hat hlt3
        have hgv : wr.heap.size + 2 ≤ gv := by
          rcases hat with h | h
          · have : gv = wr.heap.size + 1 + 1 := by simpa [Value.ownBlock] using h.symm
            omega
          · omega
        have hs1 : some wr.heap.size ≠ (Value.slice (some ⟨wr.heap.size + 1 + 1, 0, none⟩) 0 0).ownBlock := by intro h; simp only [Value.ownBlock, Option.some.injEq] at h; omega
        have hs2 : some (wr.heap.size + 1) ≠ (Value.slice (some ⟨wr.heap.size + 1 + 1, 0, none⟩) 0 0).ownBlock := by intro h; simp only [Value.ownBlock, Option.some.injEq] at h; omega
        have hs3 : some (w.heap.size + 1) ≠ (Value.slice (some ⟨wr.heap.size + 1 + 1, 0, none⟩) 0 0).ownBlock := by intro h; simp only [Value.ownBlock, Option.some.injEq] at h; omega
        have hKA : Keep wr w3 (fun _ => False) := ((((Keep.refl wr _).alloc _).alloc _).alloc _).grown hgrow (fun j hj hlt => by simp only [Value.ownBlock, Option.some.injEq] at hj; omega)
        have hS3 := StF.zero ((((Blk.new wr _ _).alloc _).alloc _).grown hgrow hs1)
        have hT3 := StF.zero ((((Blk.newAt (by simp)).alloc _)).grown hgrow hs2)
        have hV3 := VR.of_own hown3 hf8
        have hF3 := (((hF.alloc _).alloc _).alloc _).grown hgrow hs3
        have hrep3 : RepH w3 wr.heap.size A1 hs := hrep.keepG hKA (Nat.le_refl _) (fun _ h => h.elim)
        have hbr3 : Below w.heap.size w w3 := below_keep hbr hKA hbs (fun _ h => h.elim)
        have hGl := hKA.size
        have hGl2 := hT3.lt
        have hwG : w.heap.size + 2 ≤ wr.heap.size := by omega
        generalize hG : wr.heap.size = G at *
        clear hgrow hat hKA hs2 hs3 hown hrep hX hF hbr hown3 hs1 hXl hFl
        go_wp2_with fail
        go_loopw [13] (fun i wq => ∃ (k : Nat) (f f' : Nat → Int), k ≤ 16 ∧ i = .int .i64 (k : Int) ∧ StF wq G f (.slice none 0 0) 0 ∧ StF wq (G + 1) f' (.slice none 0 0) 0 ∧ (∀ j, 48 ≤ j → j < 72 → f j = f' j) ∧ VR wq gv fi ∧ Blk wq (w.heap.size + 1) 34 (c8 .i32 fi) ∧ RepH wq G A1 hs ∧ Below w.heap.size w wq ∧ G ≤ wq.heap.size) (fun i _ => 16 - (intOf i).toNat)
        case atStart => exact ⟨0, _, _, by omega, rfl, hS3, hT3, fun _ _ _ => rfl, hV3, hF3, hrep3, hbr3, hGl⟩
        case round =>
          clear hS3 hT3 hV3 hF3 hrep3 hbr3 hGl hGl2
          obtain ⟨k, f, f', hk16, rfl, hS, hT, hff, hV, hF, hrep, hbr, hGl⟩ := hrel
          have hFl := hF.lt
          have hSl := hS.lt
          have hTl := hT.lt
          by_cases hk : k < 16
          -- DONE
          · obtain ⟨m, hm, hm8⟩ : ∃ m : Nat, (k : Int) % 8 = (m : Int) ∧ m < 8 := ⟨k % 8, by omega, by omega⟩
            have k0 : (0 : Int) ≤ (k : Int) := by omega
            have k1 : (k : Int) < 16 := by omega
            have m0 : (0 : Int) ≤ (m : Int) := by omega
            have m1 : (m : Int) < 8 := by omega
            have hm2 : (k : Int).tmod 8 = (m : Int) := (Int.tmod_eq_emod_of_nonneg k0).trans hm
            have y0 := cell_of_blk hF (c8_get .i32 fi hm8)
            have s0 := hS.num (48 + k) (by omega)
            have s1 := hS.fro (48 + k)
            have t0 := hT.num (48 + k) (by omega)
            have t1 := hT.fro (48 + k)
            have hwk : IntKind.i32.wrap (k : Int) = (k : Int) := IntWalk.i32_in _ (by omega)
            obtain ⟨z, hz⟩ : ∃ z, IntKind.i32.wrap (fi m + (k : Int)) = z := ⟨_, rfl⟩
            have hzb : -2147483648 ≤ z ∧ z ≤ 2147483647 := by rw [← hz, IntKind.wrap_i32]; omega
            have hGF : w.heap.size + 1 ≠ G := by omega
            go_wp2_with fail
            go_region_held3 (fun w' => w'.cell? ⟨w.heap.size + 1, m, none⟩ = some (.int .i32 (fi m)))
              (first
                | (exact y0)
                | (exact (World.cell?_setCell_other _ ⟨G, 48 + k, none⟩ ⟨w.heap.size + 1, m, none⟩ _ (fun e => hGF (by injection e with e1; exact e1.symm))).trans y0))
              (fail)
            have hKw : Keep wr (wr.setCell ⟨G, 48 + k, none⟩ (.int .i32 z)).drew (fun j => j = G) := ((Keep.refl wr (fun j => j = G)).setCell ⟨G, 48 + k, none⟩ (fun _ => rfl) (.int .i32 z)).drew
            have hSw : StF (wr.setCell ⟨G, 48 + k, none⟩ (.int .i32 z)).drew G (upd f (48 + k) z) (.slice none 0 0) 0 := (hS.set (k := 48 + k) (by omega) z hzb.1 hzb.2).keep ((Keep.refl _ (fun _ => False)).drew) (fun h => h)
            have hTw := hT.keep hKw (by omega)
            have hVw := hV.keep hKw (by omega)
            have hFw := hKw.blk hF (by omega)
            have hrw := hrep.keepG hKw hGl (fun j hj => by omega)
            have hbw := below_keep hbr hKw (by omega) (fun j hj => by omega)
            have hGw := Nat.le_trans hGl hKw.size
            clear hS hT hV hF hrep hbr y0 s0 s1 t0 t1 hz hFl hSl hTl hKw hGl
            generalize (wr.setCell ⟨G, 48 + k, none⟩ (.int .i32 z)).drew = wz at *
            have s0 := hSw.num (48 + k) (by omega)
            rw [upd_same] at s0
            have t0 := hTw.num (48 + k) (by omega)
            have t1 := hTw.fro (48 + k)
            have hSl := hSw.lt
            have hTl := hTw.lt
            have hGG : G + 1 ≠ G := by omega
            go_wp2_with fail
            go_region_held3 (fun w' => w'.cell? ⟨G, 48 + k, none⟩ = some (.int .i32 z))
              (first
                | (exact s0)
                | (exact (World.cell?_setCell_other _ ⟨G + 1, 48 + k, none⟩ ⟨G, 48 + k, none⟩ _ (fun e => hGG (by injection e with e1))).trans s0))
              (fail)
            go_wp2_with fail
            have hKx : Keep wz (wz.setCell ⟨G + 1, 48 + k, none⟩ (.int .i32 z)).drew (fun j => j = G + 1) := ((Keep.refl wz (fun j => j = G + 1)).setCell ⟨G + 1, 48 + k, none⟩ (fun _ => rfl) (.int .i32 z)).drew
            go_roundw
            case rel =>
              refine ⟨k + 1, upd f (48 + k) z, upd f' (48 + k) z, by omega, by go_num, hSw.keep hKx (by omega), (hTw.set (k := 48 + k) (by omega) z hzb.1 hzb.2).keep ((Keep.refl _ (fun _ => False)).drew) (fun h => h), fun j h1 h2 => ?_, hVw.keep hKx (by omega), hKx.blk hFw (by omega), hrw.keepG hKx hGw (fun j hj => by omega), below_keep hbw hKx (by omega) (fun j hj => by omega), Nat.le_trans hGw hKx.size⟩
              unfold upd
              split
              · rfl
              · exact hff j h1 h2
            case measure => simp [intOf]; omega
          · have hkn : ¬ ((k : Int) < 16) := by omega
            have hVl := hV.lt
            clear hF hFl
            go_wp2_with fail
            go_loopw [14] (fun i wq => ∃ (k : Nat) (f : Nat → Int), k ≤ 8 ∧ i = .int .i64 (k : Int) ∧ StF wq G f (.slice none 0 0) 0 ∧ StF wq (G + 1) f' (.slice none 0 0) 0 ∧ (∀ j, 48 ≤ j → j < 72 → f j = f' j) ∧ (∀ j, j < k → f (locH hs j) = fi j) ∧ VR wq gv fi ∧ RepH wq G A1 hs ∧ Below w.heap.size w wq ∧ G ≤ wq.heap.size) (fun i _ => 8 - (intOf i).toNat)
            case atStart => exact ⟨0, f, by omega, rfl, hS, hT, hff, fun j hj => by omega, hV, hrep, hbr, hGl⟩
            case round =>
              clear hS hT hff hV hrep hbr hGl hSl hTl hVl
              obtain ⟨k, f, hk8, rfl, hS, hT, hff, hloc, hV, hrep, hbr, hGl⟩ := hrel
              have hSl := hS.lt
              have hVl := hV.lt
              by_cases hk : k < 8
              -- DONE
              · have k0 : (0 : Int) ≤ (k : Int) := by omega
                have k1 : (k : Int) < 8 := by omega
                have v0 := hV.num k hk
                obtain ⟨x, hx⟩ : ∃ x, hs[k]? = some x := ⟨hs[k]'(by rw [HH.out]; exact hk), List.getElem?_eq_getElem (by rw [HH.out]; exact hk)⟩
                obtain ⟨bh, oh, rfl, hbG, hall⟩ := hrep (by intro h; rw [h] at hx; simp at hx)
                obtain ⟨x0, x1⟩ := hall k x hx
                have hbl : bh < wr.heap.size := by omega
                have hbne : bh ≠ G := by omega
                have hgne : gv ≠ G := by omega
                have hlocd := H8.loc hk
                have HALL := Lib.hid hall
                rcases H8.each k hk with ⟨e0, e1, e2⟩ | ⟨e0, e1⟩
                · have hho := homeOf_nat hx
                  rw [hho] at e0 e1 e2 
                  obtain ⟨sl, n⟩ := x
                  simp only at e0 e1 x0 x1 e2
                  subst e0
                  obtain ⟨q, rfl⟩ : ∃ q : Nat, n = (q : Int) := ⟨n.toNat, by omega⟩
                  have hql : locH hs k = q := by unfold locH; rw [hho]; simp
                  have q0 : (0 : Int) ≤ (q : Int) := by omega
                  have q1 : (q : Int) < 8 := by omega
                  clear e1
                  have s0 := hS.num (q) (by omega)
                  have s1 := hS.fro (q)
                  clear hx hho hall
                  go_wp2_with fail
                  go_region_held3 (fun w' => w'.cell? ⟨bh, oh + k * 2 + 1, none⟩ = some (.int .i64 (q : Int)) ∧ w'.cell? ⟨gv, k, none⟩ = some (.int .i32 (fi k)))
                    (first
                      | (exact ⟨x1, v0⟩)
                      | (exact ⟨(World.cell?_setCell_other _ ⟨G, q, none⟩ ⟨bh, oh + k * 2 + 1, none⟩ _ (fun e => hbne (by injection e with e1; exact e1.symm))).trans x1, (World.cell?_setCell_other _ ⟨G, q, none⟩ ⟨gv, k, none⟩ _ (fun e => hgne (by injection e with e1; exact e1.symm))).trans v0⟩))
                    (fail)
                  go_wp2_with fail
                  have hKx : Keep wr (wr.setCell ⟨G, q, none⟩ (.int .i32 (fi k))).drew (fun j => j = G) := ((Keep.refl wr (fun j => j = G)).setCell ⟨G, q, none⟩ (fun _ => rfl) (.int .i32 (fi k))).drew
                  go_roundw
                  case rel =>
                    refine ⟨k + 1, upd f (q) (fi k), by omega, by go_num, (hS.set (k := q) (by omega) (fi k) (hf8 k hk).1 (hf8 k hk).2).keep ((Keep.refl _ (fun _ => False)).drew) (fun h => h), hT.keep hKx (by omega), fun j h1 h2 => ?_, fun j hj => ?_, hV.keep hKx (by omega), RepH.keepG (fun _ => ⟨bh, oh, rfl, hbG, HALL.out⟩) hKx hGl (fun j hj => by omega), below_keep hbr hKx (by omega) (fun j hj => by omega), Nat.le_trans hGl hKx.size⟩
                    · rw [upd_ne _ _ (by omega)]
                      exact hff j h1 h2
                    · rw [← hql]
                      by_cases hjk : j = k
                      · subst hjk
                        rw [upd_same]
                      · rw [upd_ne _ _ (H8.inj j k (by omega) hk hjk)]
                        exact hloc j (by omega)
                  case measure => simp [intOf]; omega
                · have hho := homeOf_nat hx
                  rw [hho] at e0 e1 
                  obtain ⟨sl, n⟩ := x
                  simp only at e0 e1 x0 x1
                  subst e0
                  subst e1
                  obtain ⟨q, hq⟩ : ∃ q : Nat, 5 + 3 * (k : Int) = (q : Int) := ⟨5 + 3 * k, by omega⟩
                  have hql : locH hs k = 8 + q := by unfold locH; rw [hho]; simp; omega
                  have q0 : (0 : Int) ≤ (q : Int) := by omega
                  have q1 : (q : Int) < 40 := by omega
                  have hwq : IntKind.i64.wrap (q : Int) = (q : Int) := IntWalk.i64_in _ (by omega)
                  have s0 := hS.num (8 + q) (by omega)
                  have s1 := hS.fro (8 + q)
                  clear hx hho hall
                  go_wp2_with fail
                  go_region_held3 (fun w' => w'.cell? ⟨bh, oh + k * 2 + 1, none⟩ = some (.int .i64 (3 * (k : Int))) ∧ w'.cell? ⟨gv, k, none⟩ = some (.int .i32 (fi k)))
                    (first
                      | (exact ⟨x1, v0⟩)
                      | (exact ⟨(World.cell?_setCell_other _ ⟨G, 8 + q, none⟩ ⟨bh, oh + k * 2 + 1, none⟩ _ (fun e => hbne (by injection e with e1; exact e1.symm))).trans x1, (World.cell?_setCell_other _ ⟨G, 8 + q, none⟩ ⟨gv, k, none⟩ _ (fun e => hgne (by injection e with e1; exact e1.symm))).trans v0⟩))
                    (fail)
                  go_wp2_with fail
                  have hKx : Keep wr (wr.setCell ⟨G, 8 + q, none⟩ (.int .i32 (fi k))).drew (fun j => j = G) := ((Keep.refl wr (fun j => j = G)).setCell ⟨G, 8 + q, none⟩ (fun _ => rfl) (.int .i32 (fi k))).drew
                  go_roundw
                  case rel =>
                    refine ⟨k + 1, upd f (8 + q) (fi k), by omega, by go_num, (hS.set (k := 8 + q) (by omega) (fi k) (hf8 k hk).1 (hf8 k hk).2).keep ((Keep.refl _ (fun _ => False)).drew) (fun h => h), hT.keep hKx (by omega), fun j h1 h2 => ?_, fun j hj => ?_, hV.keep hKx (by omega), RepH.keepG (fun _ => ⟨bh, oh, rfl, hbG, HALL.out⟩) hKx hGl (fun j hj => by omega), below_keep hbr hKx (by omega) (fun j hj => by omega), Nat.le_trans hGl hKx.size⟩
                    · rw [upd_ne _ _ (by omega)]
                      exact hff j h1 h2
                    · rw [← hql]
                      by_cases hjk : j = k
                      · subst hjk
                        rw [upd_same]
                      · rw [upd_ne _ _ (H8.inj j k (by omega) hk hjk)]
                        exact hloc j (by omega)
                  case measure => simp [intOf]; omega
              · have hkn : ¬ ((k : Int) < 8) := by omega
                have hTl := hT.lt
                have hR0 : Rel hs ⟨f, [], 0⟩ ⟨f', [], 0⟩ fi := ⟨fun j hj => hloc j (by omega), hff, rfl, rfl⟩
                have hO0 : OutR wr (G + 2) (.slice none 0 0) [] := ⟨World.ownsRow_nil _ _ _ _, by omega⟩
                have h40 : St4 wr G gv ⟨f, [], 0⟩ ⟨f', [], 0⟩ fi (.slice none 0 0) (.slice none 0 0) := ⟨hS, hT, hV, hO0, hO0, hgv, by simp [Value.ownBlock], by simp [Value.ownBlock], by simp [Value.ownBlock]⟩
                clear hS hT hV hloc hff hSl hVl hO0 hTl
                go_upto_block 6 with fail
                go_cut [15] (fun nn wx => ∃ (s t : M) (vf : Nat → Int) (os ot : Value), Rel hs s t vf ∧ St4 wx G gv s t vf os ot ∧ s.os.length ≤ 40 ∧ Below w.heap.size w wx ∧ G ≤ wx.heap.size)
                -- DONE
                case first =>
                  refine stage6 w _ _ _ _ _ _ _ _ _ _ _ _ _ _ _ _ _ _ _ _ _ _ _ _ _ _ _ _ _ _ _ _ _ _ _ _ _ _ _ _ _ _ _ _ _ _ _ _ _ _ _ _ _ _ _ _ _ _ _ _ _ _ _ _ _ _ _ _ _ _ _ _ _ _ _ _ _ _ _ _ _ _ _ _ _ _ _ _ _ _ _ _ _ _ _ _ _ _ _ _ _ _ _ _ _ _ _ _ _ _ _ _ _ _ _ _ _ _ _ _ _ _ _ _ _ _ _ _ _ _ _ _ _ _ _ _ _ _ _ _ _ _ _ _ _ _ _ _ _ _ _ _ _ _ _ _ _ _ _ _ _ _ _ _ _ _ _ _ _ _ _ _ _ _ _ _ _ _ _ _ _ _ _ _ _ _ _ _ _ _ _ _ _ _ _ _ _ _ _ _ _ _ _ _ _ _ _ _ _ _ _ _ _ _ _ _ _ _ _ _ _ _ _ _ _ _ _ _ _ _ _ _ _ _ _ _ _ _ _ _ _ _ _ _ _ _ _ _ _ _ _ _ _ _ _ _ _ _ _ _ _ _ _ _ _ _ _ _ _ _ _ _ _ _ _ _ _ _ _ _ _ _ _ HD hl H8 HH hR0 h40 hrep hbr hGl hwG ?_
                  intro W x6 x15 x16 x17 x18 x19 x20 x120 x121 x122 x123 x124 x125 x126 x127 x128 x129 x130 x131 x132 x133 x134 x135 x136 x137 x138 x139 x140 x141 x142 x143 x144 x145 x146 x147 x148 x149 x150 x151 x152 x153 x154 x155 x156 x157 x158 x159 x160 x161 x162 x163 x164 x165 x166 x167 x168 x169 x170 x171 x172 x173 x174 x175 x176 x177 x178 x179 x180 x181 x182 x183 x184 x185 x186 x187 x188 x189 x190 x191 x192 x193 x194 x195 x196 x197 x198 x199 x200 x201 x202 x203 x204 x205 x206 x207 x208 x209 x210 x211 x212 x213 x214 x215 x216 x217 x218 x219 x220 x221 x222 x223 x224 x225 x226 x227 x228 x229 x230 x231 x232 x233 x234 x235 x236 x237 x238 x239 x240 x241 x242 x243 x244 x245 x246 x247 x248 x249 hW
                  go_step
                  go_meet
                  exact hW.out
                case rest =>
                  clear hR0 h40 hrep hbr hGl
                  obtain ⟨s, t, vf, os, ot, hR, h4, hsl, hbr, hGl⟩ := hcut
                  have hos := Lib.hid hR.os
                  clear hR
                  go_wp2_with fail
                  go_loopw [21] (fun i wq => ∃ (j : Nat), j ≤ s.os.length ∧ i = .int .i64 (j : Int) ∧ St4 wq G gv s t vf os ot ∧ Below w.heap.size w wq) (fun i _ => s.os.length - (intOf i).toNat)
                  case atStart => exact ⟨0, by omega, rfl, h4, hbr⟩
                  case round =>
                    clear h4 hbr hGl
                    obtain ⟨j, hjl, rfl, h4, hbr⟩ := hrel
                    have hso := h4.ms.out
                    have hto := h4.mt.out
                    obtain ⟨As, cs, hse, hsc⟩ := h4.ros.slice
                    obtain ⟨At, ct, hte, htc⟩ := h4.rot.slice
                    rw [hse] at hso
                    rw [hte, ← hos.out] at hto
                    have hSl := h4.ms.lt
                    have hTl := h4.mt.lt
                    clear hse hte
                    have j0 : (0 : Int) ≤ (j : Int) := by omega
                    by_cases hj : j < s.os.length
                    · have j1 : (j : Int) < (s.os.length : Int) := by omega
                      obtain ⟨z, hz⟩ : ∃ z, s.os[j]? = some z := ⟨s.os[j], List.getElem?_eq_getElem hj⟩
                      obtain ⟨b1, hA1, hb1, hc1⟩ := hsc (by intro h; rw [h] at hj; simp at hj)
                      obtain ⟨b2, hA2, hb2, hc2⟩ := htc (by rw [← hos.out]; intro h; rw [h] at hj; simp at hj)
                      subst hA1
                      subst hA2
                      have p1 := hc1 j z hz
                      have p2 := hc2 j z (by rw [← hos.out]; exact hz)
                      clear hc1 hc2 hsc htc hz
                      go_wp2_with fail
                      go_quiet (fail)
                      go_wp2_with fail
                      go_roundw
                      case rel => refine ⟨j + 1, by omega, by go_num, h4.keep ((Keep.refl wr (fun _ => False)).drewN nq) (fun _ _ h => h), below_keep hbr ((Keep.refl wr (fun _ => False)).drewN nq) (Nat.le_refl _) (fun _ h => h.elim)⟩
                      case measure => simp [intOf]; omega
                    · have j1 : ¬ ((j : Int) < (s.os.length : Int)) := by omega
                      clear hsc htc
                      go_wp2_with fail
                      go_ret
                      exact ⟨rfl, hbr⟩
end Go.Proofs.YthkiajbgdamjgaaDoor

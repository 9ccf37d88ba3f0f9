/- The law's means: what an instruction does to virtual registers. Conditions: eight of them. -/
import Derived.Test.YthkiajbgdamjgaaDoorDoA
namespace Go.Proofs.YthkiajbgdamjgaaDoor
open Go.RowKit
set_option linter.unusedVariables false
attribute [local irreducible] Blk

/-- Eight virtual registers at block gv. -/
structure VR (w : World) (gv : Nat) (vf : Nat → Int) : Prop where
  lt : gv < w.heap.size
  num : ∀ k, k < 8 → w.cell? ⟨gv, k, none⟩ = some (.int .i32 (vf k))
  fro : ∀ k, w.frozen? ⟨gv, k, none⟩ = false
  bd : ∀ k, k < 8 → -2147483648 ≤ vf k ∧ vf k ≤ 2147483647
section
variable {w w' : World} {gv : Nat} {vf : Nat → Int} {S : Nat → Prop}
theorem VR.keep (h : VR w gv vf) (hk : Keep w w' S) (hg : ¬ S gv) : VR w' gv vf :=
  ⟨Nat.lt_of_lt_of_le h.lt hk.size, fun k hk' => (hk.cell (a := ⟨gv, k, none⟩) h.lt hg).trans (h.num k hk'), fun k => (hk.frozen (a := ⟨gv, k, none⟩) h.lt hg).trans (h.fro k), h.bd⟩
theorem VR.set (h : VR w gv vf) {k : Nat} (hk : k < 8) (v : Int) (v0 : -2147483648 ≤ v) (v1 : v ≤ 2147483647) : VR (w.setCell ⟨gv, k, none⟩ (.int .i32 v)) gv (upd vf k v) := by
  refine ⟨by rw [set_size]; exact h.lt, fun j hj => ?_, fun j => by rw [World.frozen?_setCell]; exact h.fro j, fun j hj => ?_⟩
  · by_cases e : j = k
    · subst e
      rw [cell_same (h.num j hj)]
      simp [upd]
    · rw [cell_other _ (Ne.symm e), h.num j hj]
      simp [upd, e]
  · unfold upd
    split
    · exact ⟨v0, v1⟩
    · exact h.bd j hj
end
theorem w32n (v : Int) : -2147483648 ≤ wrap32 v ∧ wrap32 v ≤ 2147483647 := by unfold wrap32; omega
/-- What a call of means leaves. -/
def Means (w : World) (g gv : Nat) (f : Nat → Int) (ov : Value) (tr : Int) (vf : Nat → Int) (e : Ending) (w' : World) : Prop :=
  e = .returned (.tuple #[]) ∧ StF w' g f ov tr ∧ VR w' gv vf ∧ Keep w w' (fun k => k = g ∨ k = gv)

theorem and15 (n : Nat) (h : n < 16) : bits .and .i64 (n : Int) 15 = (n : Int) := by
  have hall : ∀ m : Fin 16, bits .and .i64 ((m.val : Nat) : Int) 15 = ((m.val : Nat) : Int) := by decide +kernel
  exact hall ⟨n, h⟩
theorem and7 (n : Nat) (h : n < 16) : bits .and .i64 (n : Int) 7 = ((n % 8 : Nat) : Int) := by
  have hall : ∀ m : Fin 16, bits .and .i64 ((m.val : Nat) : Int) 7 = ((m.val % 8 : Nat) : Int) := by decide +kernel
  exact hall ⟨n, h⟩
set_option maxRecDepth 100000 in
set_option maxHeartbeats 1600000 in
theorem means_1 (w : World) (g gv cap : Nat) (f : Nat → Int) (ov : Value) (tr : Int) (vf : Nat → Int) (d a b : Nat) (op2 ty n count step : Int) (hd : d < 8) (ha : a < 8) (hb : b < 8) (hS : StF w g f ov tr) (hV : VR w gv vf) (hne : g ≠ gv) :
    Calls Tryd.prog 13 #[.pointer (some ⟨g, 0, none⟩), .agg #[.int .i64 1, .int .i64 op2, .int .i64 ty, .int .i64 (d : Int), .int .i64 (a : Int), .int .i64 (b : Int), .int .i64 n, .int .i64 count, .int .i64 step], .slice (some ⟨gv, 0, none⟩) 8 cap] w
      (Means w g gv f ov tr (upd vf d (wrap32 n))) := by
  have va := hV.num a ha
  have vb := hV.num b hb
  have vd := hV.num d hd
  have fd := hV.fro d
  have hgv := hV.lt
  have d0 : (0 : Int) ≤ (d : Int) := by omega
  have d1 : (d : Int) < 8 := by omega
  have a0 : (0 : Int) ≤ (a : Int) := by omega
  have a1 : (a : Int) < 8 := by omega
  have b0 : (0 : Int) ≤ (b : Int) := by omega
  have b1 : (b : Int) < 8 := by omega
  have bda := hV.bd a ha
  have ba0 := bda.1
  have ba1 := bda.2
  clear bda
  go_enter Tryd.func13, Tryd.ntmps13
  go_wp2_with fail
  go_quiet (fail)
  go_wp2_with fail
  go_end0
  have hk : Keep w ((w.alloc (.cells #[.int .i64 1, .int .i64 op2, .int .i64 ty, .int .i64 (d : Int), .int .i64 (a : Int), .int .i64 (b : Int), .int .i64 n, .int .i64 count, .int .i64 step] 23)).drewN nq) (fun _ => False) := ((Keep.refl w _).alloc _).drewN nq
  have hw : -2147483648 ≤ wrap32 n ∧ wrap32 n ≤ 2147483647 := w32n n
  exact ⟨rfl, (hS.keep hk (fun h => h)).keep ((Keep.refl _ (fun k => k = gv)).setCell _ (fun _ => rfl) _) hne, (hV.keep hk (fun h => h)).set hd _ hw.1 hw.2, (hk.mono (fun _ _ h => h.elim)).setCell _ (fun _ => .inr rfl) _⟩

set_option maxRecDepth 100000 in
set_option maxHeartbeats 1600000 in
theorem means_2 (w : World) (g gv cap : Nat) (f : Nat → Int) (ov : Value) (tr : Int) (vf : Nat → Int) (d a b : Nat) (op2 ty n count step : Int) (hd : d < 8) (ha : a < 8) (hb : b < 8) (hS : StF w g f ov tr) (hV : VR w gv vf) (hne : g ≠ gv) :
    Calls Tryd.prog 13 #[.pointer (some ⟨g, 0, none⟩), .agg #[.int .i64 2, .int .i64 op2, .int .i64 ty, .int .i64 (d : Int), .int .i64 (a : Int), .int .i64 (b : Int), .int .i64 n, .int .i64 count, .int .i64 step], .slice (some ⟨gv, 0, none⟩) 8 cap] w
      (Means w g gv f ov tr (upd vf d (vf a))) := by
  have va := hV.num a ha
  have vb := hV.num b hb
  have vd := hV.num d hd
  have fd := hV.fro d
  have hgv := hV.lt
  have d0 : (0 : Int) ≤ (d : Int) := by omega
  have d1 : (d : Int) < 8 := by omega
  have a0 : (0 : Int) ≤ (a : Int) := by omega
  have a1 : (a : Int) < 8 := by omega
  have b0 : (0 : Int) ≤ (b : Int) := by omega
  have b1 : (b : Int) < 8 := by omega
  have bda := hV.bd a ha
  have ba0 := bda.1
  have ba1 := bda.2
  clear bda
  go_enter Tryd.func13, Tryd.ntmps13
  go_wp2_with fail
  go_quiet (fail)
  go_wp2_with fail
  go_end0
  have hk : Keep w ((w.alloc (.cells #[.int .i64 2, .int .i64 op2, .int .i64 ty, .int .i64 (d : Int), .int .i64 (a : Int), .int .i64 (b : Int), .int .i64 n, .int .i64 count, .int .i64 step] 23)).drewN nq) (fun _ => False) := ((Keep.refl w _).alloc _).drewN nq
  have hw : -2147483648 ≤ vf a ∧ vf a ≤ 2147483647 := hV.bd a ha
  exact ⟨rfl, (hS.keep hk (fun h => h)).keep ((Keep.refl _ (fun k => k = gv)).setCell _ (fun _ => rfl) _) hne, (hV.keep hk (fun h => h)).set hd _ hw.1 hw.2, (hk.mono (fun _ _ h => h.elim)).setCell _ (fun _ => .inr rfl) _⟩

set_option maxRecDepth 100000 in
set_option maxHeartbeats 1600000 in
theorem means_4 (w : World) (g gv cap : Nat) (f : Nat → Int) (ov : Value) (tr : Int) (vf : Nat → Int) (d a b : Nat) (op2 ty n count step : Int) (hd : d < 8) (ha : a < 8) (hb : b < 8) (hS : StF w g f ov tr) (hV : VR w gv vf) (hne : g ≠ gv) :
    Calls Tryd.prog 13 #[.pointer (some ⟨g, 0, none⟩), .agg #[.int .i64 4, .int .i64 op2, .int .i64 ty, .int .i64 (d : Int), .int .i64 (a : Int), .int .i64 (b : Int), .int .i64 n, .int .i64 count, .int .i64 step], .slice (some ⟨gv, 0, none⟩) 8 cap] w
      (Means w g gv f ov tr (upd vf d (unF op2 ty (vf a)))) := by
  have va := hV.num a ha
  have vb := hV.num b hb
  have vd := hV.num d hd
  have fd := hV.fro d
  have hgv := hV.lt
  have d0 : (0 : Int) ≤ (d : Int) := by omega
  have d1 : (d : Int) < 8 := by omega
  have a0 : (0 : Int) ≤ (a : Int) := by omega
  have a1 : (a : Int) < 8 := by omega
  have b0 : (0 : Int) ≤ (b : Int) := by omega
  have b1 : (b : Int) < 8 := by omega
  have bda := hV.bd a ha
  have ba0 := bda.1
  have ba1 := bda.2
  clear bda
  go_enter Tryd.func13, Tryd.ntmps13
  go_wp2_with fail
  go_quiet (fail)
  go_wp2_with fail
  have hk : Keep w ((w.alloc (.cells #[.int .i64 4, .int .i64 op2, .int .i64 ty, .int .i64 (d : Int), .int .i64 (a : Int), .int .i64 (b : Int), .int .i64 n, .int .i64 count, .int .i64 step] 23)).drewN nq) (fun _ => False) := ((Keep.refl w _).alloc _).drewN nq
  have hB : Blk ((w.alloc (.cells #[.int .i64 4, .int .i64 op2, .int .i64 ty, .int .i64 (d : Int), .int .i64 (a : Int), .int .i64 (b : Int), .int .i64 n, .int .i64 count, .int .i64 step] 23)).drewN nq) w.heap.size 23 #[.int .i64 4, .int .i64 op2, .int .i64 ty, .int .i64 (d : Int), .int .i64 (a : Int), .int .i64 (b : Int), .int .i64 n, .int .i64 count, .int .i64 step] := (Blk.new w _ _).drewN nq
  have hSy := hS.keep hk (fun h => h)
  have hVy := hV.keep hk (fun h => h)
  have vdy := hVy.num d hd
  have fdy := hVy.fro d
  have hgy := hVy.lt
  have hBl := hB.lt
  have hbg : w.heap.size ≠ gv := by omega
  clear va vb vd fd
  generalize (w.alloc (.cells #[.int .i64 4, .int .i64 op2, .int .i64 ty, .int .i64 (d : Int), .int .i64 (a : Int), .int .i64 (b : Int), .int .i64 n, .int .i64 count, .int .i64 step] 23)).drewN nq = wy at *
  go_region_held3 (fun w' => w'.cell? ⟨w.heap.size, 1, none⟩ = some (.int .i64 op2) ∧ w'.cell? ⟨w.heap.size, 2, none⟩ = some (.int .i64 ty) ∧ w'.cell? ⟨w.heap.size, 3, none⟩ = some (.int .i64 (d : Int)))
    (first
      | (refine ⟨cell_of_blk (Blk.drew hB) (by rfl), cell_of_blk (Blk.drew hB) (by rfl), cell_of_blk (Blk.drew hB) (by rfl)⟩)
      | (refine ⟨cell_of_blk (Blk.drew (Blk.far hB hbg _)) (by rfl), cell_of_blk (Blk.drew (Blk.far hB hbg _)) (by rfl), cell_of_blk (Blk.drew (Blk.far hB hbg _)) (by rfl)⟩)
      | (refine ⟨cell_of_blk (Blk.far (Blk.drew hB) hbg _) (by rfl), cell_of_blk (Blk.far (Blk.drew hB) hbg _) (by rfl), cell_of_blk (Blk.far (Blk.drew hB) hbg _) (by rfl)⟩))
    (first
      | (go_at_call 47; refine (un_any _ op2 ty (vf a) ba0 ba1).mono ?_; rintro e w1 ⟨rfl, rfl⟩))
  all_goals
    go_wp2_with fail
    go_end0
    have hw := unF_bd op2 ty (vf a) ba0 ba1
    have hky : Keep wy wy.drew (fun _ => False) := (Keep.refl _ _).drew
    exact ⟨rfl, (hSy.keep ((Keep.refl _ (fun k => k = gv)).setCell ⟨gv, d, none⟩ (fun _ => rfl) (.int .i32 (unF op2 ty (vf a)))) hne).keep ((Keep.refl _ (fun _ => False)).drew) (fun h => h), (hVy.set hd _ hw.1 hw.2).keep ((Keep.refl _ (fun _ => False)).drew) (fun h => h), ((hk.mono (fun _ _ h => h.elim)).setCell ⟨gv, d, none⟩ (fun _ => .inr rfl) (.int .i32 (unF op2 ty (vf a)))).drew⟩

set_option maxRecDepth 100000 in
set_option maxHeartbeats 1600000 in
theorem means_3y (w : World) (g gv cap : Nat) (f : Nat → Int) (ov : Value) (tr : Int) (vf : Nat → Int) (d a b : Nat) (op2 ty n count step : Int) (hd : d < 8) (ha : a < 8) (hb : b < 8) (o0 : 9 ≤ op2) (o1 : op2 ≤ 24) (hbb : binB op2 (vf b) = true) (hS : StF w g f ov tr) (hV : VR w gv vf) (hne : g ≠ gv) :
    Calls Tryd.prog 13 #[.pointer (some ⟨g, 0, none⟩), .agg #[.int .i64 3, .int .i64 op2, .int .i64 ty, .int .i64 (d : Int), .int .i64 (a : Int), .int .i64 (b : Int), .int .i64 n, .int .i64 count, .int .i64 step], .slice (some ⟨gv, 0, none⟩) 8 cap] w
      (Means w g gv f ov tr (upd vf d (binV op2 ty (vf a) (vf b)))) := by
  have va := hV.num a ha
  have vb := hV.num b hb
  have vd := hV.num d hd
  have fd := hV.fro d
  have hgv := hV.lt
  have d0 : (0 : Int) ≤ (d : Int) := by omega
  have d1 : (d : Int) < 8 := by omega
  have a0 : (0 : Int) ≤ (a : Int) := by omega
  have a1 : (a : Int) < 8 := by omega
  have b0 : (0 : Int) ≤ (b : Int) := by omega
  have b1 : (b : Int) < 8 := by omega
  have bda := hV.bd a ha
  have ba0 := bda.1
  have ba1 := bda.2
  clear bda
  have bdb := hV.bd b hb
  have bb0 := bdb.1
  have bb1 := bdb.2
  clear bdb
  have hbin := fun W => bin_any W op2 ty (vf a) (vf b) ba0 ba1 bb0 bb1 o0 o1
  rw [hbb] at hbin
  have HBIN := Lib.hid hbin
  clear hbin hbb
  go_enter Tryd.func13, Tryd.ntmps13
  go_wp2_with fail
  go_quiet (fail)
  go_wp2_with fail
  refine (HBIN.out _).mono ?_
  rintro e w1 ⟨rfl, hb1⟩
  have hk0 : Keep w ((w.alloc (.cells #[.int .i64 3, .int .i64 op2, .int .i64 ty, .int .i64 (d : Int), .int .i64 (a : Int), .int .i64 (b : Int), .int .i64 n, .int .i64 count, .int .i64 step] 23)).drewN nq) (fun _ => False) := ((Keep.refl w _).alloc _).drewN nq
  have hB : Blk w1 w.heap.size 23 #[.int .i64 3, .int .i64 op2, .int .i64 ty, .int .i64 (d : Int), .int .i64 (a : Int), .int .i64 (b : Int), .int .i64 n, .int .i64 count, .int .i64 step] := ((Blk.new w _ _).drewN nq).below hb1 (by simp)
  have hk : Keep w w1 (fun _ => False) := hk0.trans (Keep.of_below hb1) (fun k hk hc => by simp at hc; omega)
  have hSy := hS.keep hk (fun h => h)
  have hVy := hV.keep hk (fun h => h)
  have vdy := hVy.num d hd
  have fdy := hVy.fro d
  have c73 := hSy.trap
  have f73 := hSy.fro 73
  have hgy := hVy.lt
  have hsy := hSy.lt
  have hBl := hB.lt
  have i3 := hB.cell 3
  simp at i3
  clear va vb vd fd hb1
  go_wp2_with fail
  go_end0
  have hw := binV_bd op2 ty (vf a) (vf b)
  exact ⟨rfl, hSy.keep ((Keep.refl _ (fun k => k = gv)).setCell _ (fun _ => rfl) _) hne, hVy.set hd _ hw.1 hw.2, (hk.mono (fun _ _ h => h.elim)).setCell _ (fun _ => .inr rfl) _⟩

set_option maxRecDepth 100000 in
set_option maxHeartbeats 1600000 in
theorem means_3n (w : World) (g gv cap : Nat) (f : Nat → Int) (ov : Value) (tr : Int) (vf : Nat → Int) (d a b : Nat) (op2 ty n count step : Int) (hd : d < 8) (ha : a < 8) (hb : b < 8) (o0 : 9 ≤ op2) (o1 : op2 ≤ 24) (hbb : binB op2 (vf b) = false) (hS : StF w g f ov tr) (hV : VR w gv vf) (hne : g ≠ gv) :
    Calls Tryd.prog 13 #[.pointer (some ⟨g, 0, none⟩), .agg #[.int .i64 3, .int .i64 op2, .int .i64 ty, .int .i64 (d : Int), .int .i64 (a : Int), .int .i64 (b : Int), .int .i64 n, .int .i64 count, .int .i64 step], .slice (some ⟨gv, 0, none⟩) 8 cap] w
      (Means w g gv f ov 2 vf) := by
  have va := hV.num a ha
  have vb := hV.num b hb
  have vd := hV.num d hd
  have fd := hV.fro d
  have hgv := hV.lt
  have d0 : (0 : Int) ≤ (d : Int) := by omega
  have d1 : (d : Int) < 8 := by omega
  have a0 : (0 : Int) ≤ (a : Int) := by omega
  have a1 : (a : Int) < 8 := by omega
  have b0 : (0 : Int) ≤ (b : Int) := by omega
  have b1 : (b : Int) < 8 := by omega
  have bda := hV.bd a ha
  have ba0 := bda.1
  have ba1 := bda.2
  clear bda
  have bdb := hV.bd b hb
  have bb0 := bdb.1
  have bb1 := bdb.2
  clear bdb
  have hbin := fun W => bin_any W op2 ty (vf a) (vf b) ba0 ba1 bb0 bb1 o0 o1
  rw [hbb] at hbin
  have HBIN := Lib.hid hbin
  clear hbin hbb
  go_enter Tryd.func13, Tryd.ntmps13
  go_wp2_with fail
  go_quiet (fail)
  go_wp2_with fail
  refine (HBIN.out _).mono ?_
  rintro e w1 ⟨rfl, hb1⟩
  have hk0 : Keep w ((w.alloc (.cells #[.int .i64 3, .int .i64 op2, .int .i64 ty, .int .i64 (d : Int), .int .i64 (a : Int), .int .i64 (b : Int), .int .i64 n, .int .i64 count, .int .i64 step] 23)).drewN nq) (fun _ => False) := ((Keep.refl w _).alloc _).drewN nq
  have hB : Blk w1 w.heap.size 23 #[.int .i64 3, .int .i64 op2, .int .i64 ty, .int .i64 (d : Int), .int .i64 (a : Int), .int .i64 (b : Int), .int .i64 n, .int .i64 count, .int .i64 step] := ((Blk.new w _ _).drewN nq).below hb1 (by simp)
  have hk : Keep w w1 (fun _ => False) := hk0.trans (Keep.of_below hb1) (fun k hk hc => by simp at hc; omega)
  have hSy := hS.keep hk (fun h => h)
  have hVy := hV.keep hk (fun h => h)
  have vdy := hVy.num d hd
  have fdy := hVy.fro d
  have c73 := hSy.trap
  have f73 := hSy.fro 73
  have hgy := hVy.lt
  have hsy := hSy.lt
  have hBl := hB.lt
  have i3 := hB.cell 3
  simp at i3
  clear va vb vd fd hb1
  go_wp2_with fail
  go_end0
  exact ⟨rfl, hSy.setTrap 2, hVy.keep ((Keep.refl _ (fun k => k = g)).setCell _ (fun _ => rfl) _) (Ne.symm hne), (hk.mono (fun _ _ h => h.elim)).setCell _ (fun _ => .inl rfl) _⟩

set_option maxRecDepth 100000 in
set_option maxHeartbeats 1600000 in
theorem means_9 (w : World) (g gv cap : Nat) (f : Nat → Int) (ov : Value) (tr : Int) (vf : Nat → Int) (d a b : Nat) (op2 ty n count step : Int) (hd : d < 8) (ha : a < 8) (hb : b < 8) (n0 : 0 ≤ n) (n1 : n < 16) (hS : StF w g f ov tr) (hV : VR w gv vf) (hne : g ≠ gv) :
    Calls Tryd.prog 13 #[.pointer (some ⟨g, 0, none⟩), .agg #[.int .i64 9, .int .i64 op2, .int .i64 ty, .int .i64 (d : Int), .int .i64 (a : Int), .int .i64 (b : Int), .int .i64 n, .int .i64 count, .int .i64 step], .slice (some ⟨gv, 0, none⟩) 8 cap] w
      (Means w g gv f ov tr (upd vf d (1000 + n * 7))) := by
  have va := hV.num a ha
  have vb := hV.num b hb
  have vd := hV.num d hd
  have fd := hV.fro d
  have hgv := hV.lt
  have d0 : (0 : Int) ≤ (d : Int) := by omega
  have d1 : (d : Int) < 8 := by omega
  have a0 : (0 : Int) ≤ (a : Int) := by omega
  have a1 : (a : Int) < 8 := by omega
  have b0 : (0 : Int) ≤ (b : Int) := by omega
  have b1 : (b : Int) < 8 := by omega
  have bda := hV.bd a ha
  have ba0 := bda.1
  have ba1 := bda.2
  clear bda
  go_enter Tryd.func13, Tryd.ntmps13
  go_wp2_with fail
  go_quiet (fail)
  go_wp2_with fail
  go_end0
  have hk : Keep w ((w.alloc (.cells #[.int .i64 9, .int .i64 op2, .int .i64 ty, .int .i64 (d : Int), .int .i64 (a : Int), .int .i64 (b : Int), .int .i64 n, .int .i64 count, .int .i64 step] 23)).drewN nq) (fun _ => False) := ((Keep.refl w _).alloc _).drewN nq
  have hw : -2147483648 ≤ 1000 + n * 7 ∧ 1000 + n * 7 ≤ 2147483647 := ⟨by omega, by omega⟩
  exact ⟨rfl, (hS.keep hk (fun h => h)).keep ((Keep.refl _ (fun k => k = gv)).setCell _ (fun _ => rfl) _) hne, (hV.keep hk (fun h => h)).set hd _ hw.1 hw.2, (hk.mono (fun _ _ h => h.elim)).setCell _ (fun _ => .inr rfl) _⟩

set_option maxRecDepth 100000 in
set_option maxHeartbeats 1600000 in
theorem means_13 (w : World) (g gv cap : Nat) (f : Nat → Int) (ov : Value) (tr : Int) (vf : Nat → Int) (d a b : Nat) (op2 ty n count step : Int) (hd : d < 8) (ha : a < 8) (hb : b < 8) (hS : StF w g f ov tr) (hV : VR w gv vf) (hne : g ≠ gv) :
    Calls Tryd.prog 13 #[.pointer (some ⟨g, 0, none⟩), .agg #[.int .i64 13, .int .i64 op2, .int .i64 ty, .int .i64 (d : Int), .int .i64 (a : Int), .int .i64 (b : Int), .int .i64 n, .int .i64 count, .int .i64 step], .slice (some ⟨gv, 0, none⟩) 8 cap] w
      (Means w g gv f ov tr (upd vf d ((1000 : Int)))) := by
  have va := hV.num a ha
  have vb := hV.num b hb
  have vd := hV.num d hd
  have fd := hV.fro d
  have hgv := hV.lt
  have d0 : (0 : Int) ≤ (d : Int) := by omega
  have d1 : (d : Int) < 8 := by omega
  have a0 : (0 : Int) ≤ (a : Int) := by omega
  have a1 : (a : Int) < 8 := by omega
  have b0 : (0 : Int) ≤ (b : Int) := by omega
  have b1 : (b : Int) < 8 := by omega
  have bda := hV.bd a ha
  have ba0 := bda.1
  have ba1 := bda.2
  clear bda
  go_enter Tryd.func13, Tryd.ntmps13
  go_wp2_with fail
  go_quiet (fail)
  go_wp2_with fail
  go_end0
  have hk : Keep w ((w.alloc (.cells #[.int .i64 13, .int .i64 op2, .int .i64 ty, .int .i64 (d : Int), .int .i64 (a : Int), .int .i64 (b : Int), .int .i64 n, .int .i64 count, .int .i64 step] 23)).drewN nq) (fun _ => False) := ((Keep.refl w _).alloc _).drewN nq
  have hw : -2147483648 ≤ (1000 : Int) ∧ (1000 : Int) ≤ 2147483647 := ⟨by omega, by omega⟩
  exact ⟨rfl, (hS.keep hk (fun h => h)).keep ((Keep.refl _ (fun k => k = gv)).setCell _ (fun _ => rfl) _) hne, (hV.keep hk (fun h => h)).set hd _ hw.1 hw.2, (hk.mono (fun _ _ h => h.elim)).setCell _ (fun _ => .inr rfl) _⟩

set_option maxRecDepth 100000 in
set_option maxHeartbeats 1600000 in
theorem means_6 (w : World) (g gv cap : Nat) (f : Nat → Int) (ov : Value) (tr : Int) (vf : Nat → Int) (d a b : Nat) (k : Nat) (op2 ty count step : Int) (hd : d < 8) (ha : a < 8) (hb : b < 8) (hk : k < 16) (hS : StF w g f ov tr) (hV : VR w gv vf) (hne : g ≠ gv) :
    Calls Tryd.prog 13 #[.pointer (some ⟨g, 0, none⟩), .agg #[.int .i64 6, .int .i64 op2, .int .i64 ty, .int .i64 (d : Int), .int .i64 (a : Int), .int .i64 (b : Int), .int .i64 (k : Int), .int .i64 count, .int .i64 step], .slice (some ⟨gv, 0, none⟩) 8 cap] w
      (Means w g gv (upd f (48 + k) (vf a)) ov tr vf) := by
  have va := hV.num a ha
  have vb := hV.num b hb
  have vd := hV.num d hd
  have fd := hV.fro d
  have hgv := hV.lt
  have d0 : (0 : Int) ≤ (d : Int) := by omega
  have d1 : (d : Int) < 8 := by omega
  have a0 : (0 : Int) ≤ (a : Int) := by omega
  have a1 : (a : Int) < 8 := by omega
  have b0 : (0 : Int) ≤ (b : Int) := by omega
  have b1 : (b : Int) < 8 := by omega
  have bda := hV.bd a ha
  have ba0 := bda.1
  have ba1 := bda.2
  clear bda
  go_enter Tryd.func13, Tryd.ntmps13
  go_wp2_with fail
  go_quiet (fail)
  go_wp2_with fail
  have hkp : Keep w ((w.alloc (.cells #[.int .i64 6, .int .i64 op2, .int .i64 ty, .int .i64 (d : Int), .int .i64 (a : Int), .int .i64 (b : Int), .int .i64 (k : Int), .int .i64 count, .int .i64 step] 23)).drewN nq) (fun _ => False) := ((Keep.refl w _).alloc _).drewN nq
  have hB : Blk ((w.alloc (.cells #[.int .i64 6, .int .i64 op2, .int .i64 ty, .int .i64 (d : Int), .int .i64 (a : Int), .int .i64 (b : Int), .int .i64 (k : Int), .int .i64 count, .int .i64 step] 23)).drewN nq) w.heap.size 23 #[.int .i64 6, .int .i64 op2, .int .i64 ty, .int .i64 (d : Int), .int .i64 (a : Int), .int .i64 (b : Int), .int .i64 (k : Int), .int .i64 count, .int .i64 step] := (Blk.new w _ _).drewN nq
  have hSy := hS.keep hkp (fun h => h)
  have hVy := hV.keep hkp (fun h => h)
  have hl := and15 k hk
  have hk8 : k < 16 := by omega
  have j0 : (0 : Int) ≤ ((k : Nat) : Int) := by omega
  have j1 : ((k : Nat) : Int) < 16 := by omega
  have cj := hSy.num (48 + (k)) (by omega)
  have fj := hSy.fro (48 + (k))
  have hsy := hSy.lt
  have hBl := hB.lt
  have hSlt := hS.lt
  have hbg : w.heap.size ≠ g := by omega
  clear va vb vd fd
  generalize (w.alloc (.cells #[.int .i64 6, .int .i64 op2, .int .i64 ty, .int .i64 (d : Int), .int .i64 (a : Int), .int .i64 (b : Int), .int .i64 (k : Int), .int .i64 count, .int .i64 step] 23)).drewN nq = wy at *
  go_region_held3 (fun w' => w'.cell? ⟨w.heap.size, 6, none⟩ = some (.int .i64 (k : Int)))
    (first
      | (exact cell_of_blk (Blk.drew hB) (by rfl))
      | (exact cell_of_blk (Blk.drew (Blk.far hB hbg _)) (by rfl))
      | (exact cell_of_blk (Blk.far (Blk.drew hB) hbg _) (by rfl)))
    (fail)
  all_goals
    go_wp2_with fail
    go_end0
    have hw := hV.bd a ha
    exact ⟨rfl, (hSy.set (k := 48 + (k)) (by omega) _ hw.1 hw.2).keep ((Keep.refl _ (fun _ => False)).drew) (fun h => h), (hVy.keep ((Keep.refl _ (fun k => k = g)).setCell ⟨g, 48 + (k), none⟩ (fun _ => rfl) (.int .i32 (vf a))) (Ne.symm hne)).keep ((Keep.refl _ (fun _ => False)).drew) (fun h => h), ((hkp.mono (fun _ _ h => h.elim)).setCell ⟨g, 48 + (k), none⟩ (fun _ => .inl rfl) (.int .i32 (vf a))).drew⟩

set_option maxRecDepth 100000 in
set_option maxHeartbeats 1600000 in
theorem means_11 (w : World) (g gv cap : Nat) (f : Nat → Int) (ov : Value) (tr : Int) (vf : Nat → Int) (d a b : Nat) (k m : Nat) (op2 ty count step : Int) (hd : d < 8) (ha : a < 8) (hb : b < 8) (hk : k < 16) (hm : k % 8 = m) (hS : StF w g f ov tr) (hV : VR w gv vf) (hne : g ≠ gv) :
    Calls Tryd.prog 13 #[.pointer (some ⟨g, 0, none⟩), .agg #[.int .i64 11, .int .i64 op2, .int .i64 ty, .int .i64 (d : Int), .int .i64 (a : Int), .int .i64 (b : Int), .int .i64 (k : Int), .int .i64 count, .int .i64 step], .slice (some ⟨gv, 0, none⟩) 8 cap] w
      (Means w g gv (upd f (64 + m) (vf a)) ov tr vf) := by
  have va := hV.num a ha
  have vb := hV.num b hb
  have vd := hV.num d hd
  have fd := hV.fro d
  have hgv := hV.lt
  have d0 : (0 : Int) ≤ (d : Int) := by omega
  have d1 : (d : Int) < 8 := by omega
  have a0 : (0 : Int) ≤ (a : Int) := by omega
  have a1 : (a : Int) < 8 := by omega
  have b0 : (0 : Int) ≤ (b : Int) := by omega
  have b1 : (b : Int) < 8 := by omega
  have bda := hV.bd a ha
  have ba0 := bda.1
  have ba1 := bda.2
  clear bda
  go_enter Tryd.func13, Tryd.ntmps13
  go_wp2_with fail
  go_quiet (fail)
  go_wp2_with fail
  have hkp : Keep w ((w.alloc (.cells #[.int .i64 11, .int .i64 op2, .int .i64 ty, .int .i64 (d : Int), .int .i64 (a : Int), .int .i64 (b : Int), .int .i64 (k : Int), .int .i64 count, .int .i64 step] 23)).drewN nq) (fun _ => False) := ((Keep.refl w _).alloc _).drewN nq
  have hB : Blk ((w.alloc (.cells #[.int .i64 11, .int .i64 op2, .int .i64 ty, .int .i64 (d : Int), .int .i64 (a : Int), .int .i64 (b : Int), .int .i64 (k : Int), .int .i64 count, .int .i64 step] 23)).drewN nq) w.heap.size 23 #[.int .i64 11, .int .i64 op2, .int .i64 ty, .int .i64 (d : Int), .int .i64 (a : Int), .int .i64 (b : Int), .int .i64 (k : Int), .int .i64 count, .int .i64 step] := (Blk.new w _ _).drewN nq
  have hSy := hS.keep hkp (fun h => h)
  have hVy := hV.keep hkp (fun h => h)
  have hl := (hm ▸ and7 k hk : bits .and .i64 (k : Int) 7 = ((m : Nat) : Int))
  have hk8 : m < 8 := by omega
  have j0 : (0 : Int) ≤ ((m : Nat) : Int) := by omega
  have j1 : ((m : Nat) : Int) < 8 := by omega
  have cj := hSy.num (64 + (m)) (by omega)
  have fj := hSy.fro (64 + (m))
  have hsy := hSy.lt
  have hBl := hB.lt
  have hSlt := hS.lt
  have hbg : w.heap.size ≠ g := by omega
  clear va vb vd fd hm
  generalize (w.alloc (.cells #[.int .i64 11, .int .i64 op2, .int .i64 ty, .int .i64 (d : Int), .int .i64 (a : Int), .int .i64 (b : Int), .int .i64 (k : Int), .int .i64 count, .int .i64 step] 23)).drewN nq = wy at *
  go_region_held3 (fun w' => w'.cell? ⟨w.heap.size, 6, none⟩ = some (.int .i64 (k : Int)))
    (first
      | (exact cell_of_blk (Blk.drew hB) (by rfl))
      | (exact cell_of_blk (Blk.drew (Blk.far hB hbg _)) (by rfl))
      | (exact cell_of_blk (Blk.far (Blk.drew hB) hbg _) (by rfl)))
    (fail)
  all_goals
    go_wp2_with fail
    go_end0
    have hw := hV.bd a ha
    exact ⟨rfl, (hSy.set (k := 64 + (m)) (by omega) _ hw.1 hw.2).keep ((Keep.refl _ (fun _ => False)).drew) (fun h => h), (hVy.keep ((Keep.refl _ (fun k => k = g)).setCell ⟨g, 64 + (m), none⟩ (fun _ => rfl) (.int .i32 (vf a))) (Ne.symm hne)).keep ((Keep.refl _ (fun _ => False)).drew) (fun h => h), ((hkp.mono (fun _ _ h => h.elim)).setCell ⟨g, 64 + (m), none⟩ (fun _ => .inl rfl) (.int .i32 (vf a))).drew⟩

set_option maxRecDepth 100000 in
set_option maxHeartbeats 1600000 in
theorem means_5 (w : World) (g gv cap : Nat) (f : Nat → Int) (ov : Value) (tr : Int) (vf : Nat → Int) (d a b : Nat) (k : Nat) (op2 ty count step : Int) (hd : d < 8) (ha : a < 8) (hb : b < 8) (hk : k < 16) (hS : StF w g f ov tr) (hV : VR w gv vf) (hne : g ≠ gv) :
    Calls Tryd.prog 13 #[.pointer (some ⟨g, 0, none⟩), .agg #[.int .i64 5, .int .i64 op2, .int .i64 ty, .int .i64 (d : Int), .int .i64 (a : Int), .int .i64 (b : Int), .int .i64 (k : Int), .int .i64 count, .int .i64 step], .slice (some ⟨gv, 0, none⟩) 8 cap] w
      (Means w g gv f ov tr (upd vf d (f (48 + k)))) := by
  have va := hV.num a ha
  have vb := hV.num b hb
  have vd := hV.num d hd
  have fd := hV.fro d
  have hgv := hV.lt
  have d0 : (0 : Int) ≤ (d : Int) := by omega
  have d1 : (d : Int) < 8 := by omega
  have a0 : (0 : Int) ≤ (a : Int) := by omega
  have a1 : (a : Int) < 8 := by omega
  have b0 : (0 : Int) ≤ (b : Int) := by omega
  have b1 : (b : Int) < 8 := by omega
  have bda := hV.bd a ha
  have ba0 := bda.1
  have ba1 := bda.2
  clear bda
  go_enter Tryd.func13, Tryd.ntmps13
  go_wp2_with fail
  go_quiet (fail)
  go_wp2_with fail
  have hkp : Keep w ((w.alloc (.cells #[.int .i64 5, .int .i64 op2, .int .i64 ty, .int .i64 (d : Int), .int .i64 (a : Int), .int .i64 (b : Int), .int .i64 (k : Int), .int .i64 count, .int .i64 step] 23)).drewN nq) (fun _ => False) := ((Keep.refl w _).alloc _).drewN nq
  have hB : Blk ((w.alloc (.cells #[.int .i64 5, .int .i64 op2, .int .i64 ty, .int .i64 (d : Int), .int .i64 (a : Int), .int .i64 (b : Int), .int .i64 (k : Int), .int .i64 count, .int .i64 step] 23)).drewN nq) w.heap.size 23 #[.int .i64 5, .int .i64 op2, .int .i64 ty, .int .i64 (d : Int), .int .i64 (a : Int), .int .i64 (b : Int), .int .i64 (k : Int), .int .i64 count, .int .i64 step] := (Blk.new w _ _).drewN nq
  have hSy := hS.keep hkp (fun h => h)
  have hVy := hV.keep hkp (fun h => h)
  have hl := and15 k hk
  have j0 : (0 : Int) ≤ (k : Int) := by omega
  have j1 : (k : Int) < 16 := by omega
  have cj := hSy.num (48 + k) (by omega)
  have hsy := hSy.lt
  have hBl := hB.lt
  have hSlt := hS.lt
  have vdy := hVy.num d hd
  have fdy := hVy.fro d
  have hgy := hVy.lt
  have hbg : w.heap.size ≠ gv := by omega
  clear va vb vd fd
  generalize (w.alloc (.cells #[.int .i64 5, .int .i64 op2, .int .i64 ty, .int .i64 (d : Int), .int .i64 (a : Int), .int .i64 (b : Int), .int .i64 (k : Int), .int .i64 count, .int .i64 step] 23)).drewN nq = wy at *
  go_region_held3 (fun w' => w'.cell? ⟨w.heap.size, 3, none⟩ = some (.int .i64 (d : Int)) ∧ w'.cell? ⟨w.heap.size, 6, none⟩ = some (.int .i64 (k : Int)) ∧ w'.cell? ⟨g, 48 + k, none⟩ = some (.int .i32 (f (48 + k))))
    (first
      | (refine ⟨cell_of_blk (Blk.drew hB) (by rfl), cell_of_blk (Blk.drew hB) (by rfl), cj⟩)
      | (refine ⟨cell_of_blk (Blk.drew (Blk.far hB hbg _)) (by rfl), cell_of_blk (Blk.drew (Blk.far hB hbg _)) (by rfl), (World.cell?_setCell_other _ ⟨gv, d, none⟩ ⟨g, 48 + k, none⟩ _ (fun e => hne (by injection e with e1 e2; exact e1.symm))).trans cj⟩)
      | (refine ⟨cell_of_blk (Blk.far (Blk.drew hB) hbg _) (by rfl), cell_of_blk (Blk.far (Blk.drew hB) hbg _) (by rfl), (World.cell?_setCell_other _ ⟨gv, d, none⟩ ⟨g, 48 + k, none⟩ _ (fun e => hne (by injection e with e1 e2; exact e1.symm))).trans cj⟩))
    (fail)
  all_goals
    go_wp2_with fail
    go_end0
    have hw := hS.bd (48 + k) (by omega)
    exact ⟨rfl, (hSy.keep ((Keep.refl _ (fun k => k = gv)).setCell ⟨gv, d, none⟩ (fun _ => rfl) (.int .i32 (f (48 + k)))) hne).keep ((Keep.refl _ (fun _ => False)).drew) (fun h => h), (hVy.set hd _ hw.1 hw.2).keep ((Keep.refl _ (fun _ => False)).drew) (fun h => h), ((hkp.mono (fun _ _ h => h.elim)).setCell ⟨gv, d, none⟩ (fun _ => .inr rfl) (.int .i32 (f (48 + k)))).drew⟩

end Go.Proofs.YthkiajbgdamjgaaDoor

/- The law's means: cells, and what is put out. Conditions: eight virtual registers; numbers in range. -/
import Derived.Test.YthkiajbgdamjgaaDoorDoB
namespace Go.Proofs.YthkiajbgdamjgaaDoor
open Go.RowKit
set_option linter.unusedVariables false
attribute [local irreducible] Blk

theorem cellAt_nat (n i : Int) : ∃ q : Nat, cellAt n i = (q : Int) ∧ q < 16 := ⟨(cellAt n i).toNat, by unfold cellAt; omega, by unfold cellAt; omega⟩
theorem infoI32 : (Tryd.prog.info? 21).map (fun i => (i.zero, i.size, i.bytes)) = some (some (.int .i32 0), 1, 4) := by kernel_rfl
def i32Cells (l : List Int) : List Value := l.map (Value.int .i32)
theorem i32Cells_append (a b : List Int) : i32Cells (a ++ b) = i32Cells a ++ i32Cells b := by simp [i32Cells]
theorem i32Cells_one (l : List Int) : ∀ u ∈ i32Cells l, u.oneCell' = true := by
  intro u hu
  simp only [i32Cells, List.mem_map] at hu
  obtain ⟨z, _, rfl⟩ := hu
  rfl
/-- What is put out, in a row of its own. -/
structure OutR (w : World) (base : Nat) (ov : Value) (os : List Int) : Prop where
  own : w.ownsRow base 21 1 ov os.length (i32Cells os)
  low : base ≤ w.heap.size
theorem OutR.keep {w w' : World} {base : Nat} {ov : Value} {os : List Int} {S : Nat → Prop} (h : OutR w base ov os) (hk : Keep w w' S) (hn : ∀ k, ov.ownBlock = some k → ¬ S k) : OutR w' base ov os := ⟨hk.row h.own hn, Nat.le_trans h.low hk.size⟩
/-- What a call of means leaves, with what was put out. -/
def MeansO (w : World) (g gv base : Nat) (ov : Value) (f : Nat → Int) (os : List Int) (tr : Int) (vf : Nat → Int) (e : Ending) (w' : World) : Prop :=
  e = .returned (.tuple #[]) ∧ ∃ ov', StF w' g f ov' tr ∧ VR w' gv vf ∧ OutR w' base ov' os ∧ Keep w w' (fun k => k = g ∨ k = gv ∨ ov.ownBlock = some k) ∧ Fresh w ov ov'

set_option maxRecDepth 100000 in
set_option maxHeartbeats 1600000 in
theorem means_7y (w : World) (g gv cap : Nat) (f : Nat → Int) (ov : Value) (tr : Int) (vf : Nat → Int) (d a b k m : Nat) (op2 ty step : Int) (hd : d < 8) (ha : a < 8) (hb : b < 8) (hk16 : k < 16) (hm9 : m ≤ 9) (i0 : 0 ≤ vf a) (i1 : vf a < (m : Int)) (hS : StF w g f ov tr) (hV : VR w gv vf) (hne : g ≠ gv) :
    Calls Tryd.prog 13 #[.pointer (some ⟨g, 0, none⟩), .agg #[.int .i64 7, .int .i64 op2, .int .i64 ty, .int .i64 (d : Int), .int .i64 (a : Int), .int .i64 (b : Int), .int .i64 (k : Int), .int .i64 (m : Int), .int .i64 step], .slice (some ⟨gv, 0, none⟩) 8 cap] w
      (Means w g gv f ov tr (upd vf d (f (48 + (cellAt (128 * (k : Int) + (m : Int)) (vf a)).toNat)))) := by
  have va := hV.num a ha
  have vb := hV.num b hb
  have vd := hV.num d hd
  have fd := hV.fro d
  have hgv := hV.lt
  have d0 : (0 : Int) ≤ (d : Int) := by omega
  have d1 : (d : Int) < 8 := by omega
  have a0 : (0 : Int) ≤ (a : Int) := by omega
  have a1 : (a : Int) < 8 := by omega
  have b0 : (0 : Int) ≤ (b : Int) := by omega
  have b1 : (b : Int) < 8 := by omega
  have k0 : (0 : Int) ≤ (k : Int) := by omega
  have k1 : (k : Int) < 16 := by omega
  have m0 : (0 : Int) ≤ (m : Int) := by omega
  have m1 : (m : Int) ≤ 9 := by omega
  have bda := hV.bd a ha
  have ba0 := bda.1
  have ba1 := bda.2
  clear bda
  have hcell := fun W => cell_yes W g (128 * (k : Int) + (m : Int)) (vf a) (by omega) (by omega) i0 (by omega)
  obtain ⟨q, hq, hq16⟩ := cellAt_nat (128 * (k : Int) + (m : Int)) (vf a)
  rw [hq] at hcell
  have HC := Lib.hid hcell
  have q0 : (0 : Int) ≤ (q : Int) := by omega
  have q1 : (q : Int) < 16 := by omega
  clear hcell
  go_enter Tryd.func13, Tryd.ntmps13
  go_wp2_with fail
  go_quiet (fail)
  go_wp2_with fail
  refine (HC.out _).mono ?_
  rintro e w1 ⟨rfl, rfl⟩
  have hkp : Keep w ((w.alloc (.cells #[.int .i64 7, .int .i64 op2, .int .i64 ty, .int .i64 (d : Int), .int .i64 (a : Int), .int .i64 (b : Int), .int .i64 (k : Int), .int .i64 (m : Int), .int .i64 step] 23)).drewN nq) (fun _ => False) := ((Keep.refl w _).alloc _).drewN nq
  have hB : Blk ((w.alloc (.cells #[.int .i64 7, .int .i64 op2, .int .i64 ty, .int .i64 (d : Int), .int .i64 (a : Int), .int .i64 (b : Int), .int .i64 (k : Int), .int .i64 (m : Int), .int .i64 step] 23)).drewN nq) w.heap.size 23 #[.int .i64 7, .int .i64 op2, .int .i64 ty, .int .i64 (d : Int), .int .i64 (a : Int), .int .i64 (b : Int), .int .i64 (k : Int), .int .i64 (m : Int), .int .i64 step] := (Blk.new w _ _).drewN nq
  have hSy := hS.keep hkp (fun h => h)
  have hVy := hV.keep hkp (fun h => h)
  have hsy := hSy.lt
  have hBl := hB.lt
  have hSlt := hS.lt
  have vdy := hVy.num d hd
  have fdy := hVy.fro d
  have hgy := hVy.lt
  have hbg : w.heap.size ≠ gv := by omega
  have hbg2 : w.heap.size ≠ g := by omega
  have cj := hSy.num (48 + q) (by omega)
  clear va vb vd fd
  generalize (w.alloc (.cells #[.int .i64 7, .int .i64 op2, .int .i64 ty, .int .i64 (d : Int), .int .i64 (a : Int), .int .i64 (b : Int), .int .i64 (k : Int), .int .i64 (m : Int), .int .i64 step] 23)).drewN nq = wy at *
  go_wp2_with fail
  go_region_held3 (fun w' => w'.cell? ⟨w.heap.size, 3, none⟩ = some (.int .i64 (d : Int)) ∧ w'.cell? ⟨g, 48 + q, none⟩ = some (.int .i32 (f (48 + q))))
    (first
      | (refine ⟨cell_of_blk (Blk.drew hB) (by rfl), cj⟩)
      | (refine ⟨cell_of_blk (Blk.drew (Blk.far hB hbg _)) (by rfl), (World.cell?_setCell_other _ ⟨gv, d, none⟩ ⟨g, 48 + q, none⟩ _ (fun e => hne (by injection e with e1 e2; exact e1.symm))).trans cj⟩)
      | (refine ⟨cell_of_blk (Blk.far (Blk.drew hB) hbg _) (by rfl), (World.cell?_setCell_other _ ⟨gv, d, none⟩ ⟨g, 48 + q, none⟩ _ (fun e => hne (by injection e with e1 e2; exact e1.symm))).trans cj⟩))
    (fail)
  all_goals
    go_wp2_with fail
    go_end0
    have hw := hS.bd (48 + q) (by omega)
    rw [hq, Int.toNat_natCast]
    exact ⟨rfl, (hSy.keep ((Keep.refl _ (fun k => k = gv)).setCell ⟨gv, d, none⟩ (fun _ => rfl) (.int .i32 (f (48 + q)))) hne).keep ((Keep.refl _ (fun _ => False)).drew) (fun h => h), (hVy.set hd _ hw.1 hw.2).keep ((Keep.refl _ (fun _ => False)).drew) (fun h => h), ((hkp.mono (fun _ _ h => h.elim)).setCell ⟨gv, d, none⟩ (fun _ => .inr rfl) (.int .i32 (f (48 + q)))).drew⟩

set_option maxRecDepth 100000 in
set_option maxHeartbeats 1600000 in
theorem means_8y (w : World) (g gv cap : Nat) (f : Nat → Int) (ov : Value) (tr : Int) (vf : Nat → Int) (d a b k m : Nat) (op2 ty step : Int) (hd : d < 8) (ha : a < 8) (hb : b < 8) (hk16 : k < 16) (hm9 : m ≤ 9) (i0 : 0 ≤ vf a) (i1 : vf a < (m : Int)) (hS : StF w g f ov tr) (hV : VR w gv vf) (hne : g ≠ gv) :
    Calls Tryd.prog 13 #[.pointer (some ⟨g, 0, none⟩), .agg #[.int .i64 8, .int .i64 op2, .int .i64 ty, .int .i64 (d : Int), .int .i64 (a : Int), .int .i64 (b : Int), .int .i64 (k : Int), .int .i64 (m : Int), .int .i64 step], .slice (some ⟨gv, 0, none⟩) 8 cap] w
      (Means w g gv (upd f (48 + (cellAt (128 * (k : Int) + (m : Int)) (vf a)).toNat) (vf b)) ov tr vf) := by
  have va := hV.num a ha
  have vb := hV.num b hb
  have vd := hV.num d hd
  have fd := hV.fro d
  have hgv := hV.lt
  have d0 : (0 : Int) ≤ (d : Int) := by omega
  have d1 : (d : Int) < 8 := by omega
  have a0 : (0 : Int) ≤ (a : Int) := by omega
  have a1 : (a : Int) < 8 := by omega
  have b0 : (0 : Int) ≤ (b : Int) := by omega
  have b1 : (b : Int) < 8 := by omega
  have k0 : (0 : Int) ≤ (k : Int) := by omega
  have k1 : (k : Int) < 16 := by omega
  have m0 : (0 : Int) ≤ (m : Int) := by omega
  have m1 : (m : Int) ≤ 9 := by omega
  have bda := hV.bd a ha
  have ba0 := bda.1
  have ba1 := bda.2
  clear bda
  have hcell := fun W => cell_yes W g (128 * (k : Int) + (m : Int)) (vf a) (by omega) (by omega) i0 (by omega)
  obtain ⟨q, hq, hq16⟩ := cellAt_nat (128 * (k : Int) + (m : Int)) (vf a)
  rw [hq] at hcell
  have HC := Lib.hid hcell
  have q0 : (0 : Int) ≤ (q : Int) := by omega
  have q1 : (q : Int) < 16 := by omega
  clear hcell
  go_enter Tryd.func13, Tryd.ntmps13
  go_wp2_with fail
  go_quiet (fail)
  go_wp2_with fail
  refine (HC.out _).mono ?_
  rintro e w1 ⟨rfl, rfl⟩
  have hkp : Keep w ((w.alloc (.cells #[.int .i64 8, .int .i64 op2, .int .i64 ty, .int .i64 (d : Int), .int .i64 (a : Int), .int .i64 (b : Int), .int .i64 (k : Int), .int .i64 (m : Int), .int .i64 step] 23)).drewN nq) (fun _ => False) := ((Keep.refl w _).alloc _).drewN nq
  have hB : Blk ((w.alloc (.cells #[.int .i64 8, .int .i64 op2, .int .i64 ty, .int .i64 (d : Int), .int .i64 (a : Int), .int .i64 (b : Int), .int .i64 (k : Int), .int .i64 (m : Int), .int .i64 step] 23)).drewN nq) w.heap.size 23 #[.int .i64 8, .int .i64 op2, .int .i64 ty, .int .i64 (d : Int), .int .i64 (a : Int), .int .i64 (b : Int), .int .i64 (k : Int), .int .i64 (m : Int), .int .i64 step] := (Blk.new w _ _).drewN nq
  have hSy := hS.keep hkp (fun h => h)
  have hVy := hV.keep hkp (fun h => h)
  have hsy := hSy.lt
  have hBl := hB.lt
  have hSlt := hS.lt
  have vdy := hVy.num d hd
  have fdy := hVy.fro d
  have hgy := hVy.lt
  have hbg : w.heap.size ≠ gv := by omega
  have hbg2 : w.heap.size ≠ g := by omega
  have cj := hSy.num (48 + q) (by omega)
  have fj := hSy.fro (48 + q)
  clear va vd fd
  go_wp2_with fail
  go_end0
  have hw := hV.bd b hb
  rw [hq, Int.toNat_natCast]
  exact ⟨rfl, hSy.set (k := 48 + q) (by omega) _ hw.1 hw.2, hVy.keep ((Keep.refl _ (fun k => k = g)).setCell ⟨g, 48 + q, none⟩ (fun _ => rfl) (.int .i32 (vf b))) (Ne.symm hne), (hkp.mono (fun _ _ h => h.elim)).setCell ⟨g, 48 + q, none⟩ (fun _ => .inl rfl) (.int .i32 (vf b))⟩

set_option maxRecDepth 100000 in
set_option maxHeartbeats 1600000 in
theorem means_7n (w : World) (g gv cap : Nat) (f : Nat → Int) (ov : Value) (tr : Int) (vf : Nat → Int) (d a b k m : Nat) (op2 ty step : Int) (hd : d < 8) (ha : a < 8) (hb : b < 8) (hk16 : k < 16) (hm9 : m ≤ 9) (hi : vf a < 0 ∨ (m : Int) ≤ vf a) (hS : StF w g f ov tr) (hV : VR w gv vf) (hne : g ≠ gv) :
    Calls Tryd.prog 13 #[.pointer (some ⟨g, 0, none⟩), .agg #[.int .i64 7, .int .i64 op2, .int .i64 ty, .int .i64 (d : Int), .int .i64 (a : Int), .int .i64 (b : Int), .int .i64 (k : Int), .int .i64 (m : Int), .int .i64 step], .slice (some ⟨gv, 0, none⟩) 8 cap] w
      (Means w g gv f ov 3 vf) := by
  have va := hV.num a ha
  have vb := hV.num b hb
  have vd := hV.num d hd
  have fd := hV.fro d
  have hgv := hV.lt
  have d0 : (0 : Int) ≤ (d : Int) := by omega
  have d1 : (d : Int) < 8 := by omega
  have a0 : (0 : Int) ≤ (a : Int) := by omega
  have a1 : (a : Int) < 8 := by omega
  have b0 : (0 : Int) ≤ (b : Int) := by omega
  have b1 : (b : Int) < 8 := by omega
  have k0 : (0 : Int) ≤ (k : Int) := by omega
  have k1 : (k : Int) < 16 := by omega
  have m0 : (0 : Int) ≤ (m : Int) := by omega
  have m1 : (m : Int) ≤ 9 := by omega
  have bda := hV.bd a ha
  have ba0 := bda.1
  have ba1 := bda.2
  clear bda
  have hcell := fun W (h : StF W g f ov tr) => cell_no W g f ov tr (128 * (k : Int) + (m : Int)) (vf a) h (by omega) (by omega) ba0 ba1 (by omega)
  have HC := Lib.hid hcell
  clear hcell hi
  go_enter Tryd.func13, Tryd.ntmps13
  go_wp2_with fail
  go_quiet (fail)
  go_wp2_with fail
  have hkp : Keep w ((w.alloc (.cells #[.int .i64 7, .int .i64 op2, .int .i64 ty, .int .i64 (d : Int), .int .i64 (a : Int), .int .i64 (b : Int), .int .i64 (k : Int), .int .i64 (m : Int), .int .i64 step] 23)).drewN nq) (fun _ => False) := ((Keep.refl w _).alloc _).drewN nq
  have hB : Blk ((w.alloc (.cells #[.int .i64 7, .int .i64 op2, .int .i64 ty, .int .i64 (d : Int), .int .i64 (a : Int), .int .i64 (b : Int), .int .i64 (k : Int), .int .i64 (m : Int), .int .i64 step] 23)).drewN nq) w.heap.size 23 #[.int .i64 7, .int .i64 op2, .int .i64 ty, .int .i64 (d : Int), .int .i64 (a : Int), .int .i64 (b : Int), .int .i64 (k : Int), .int .i64 (m : Int), .int .i64 step] := (Blk.new w _ _).drewN nq
  have hSy := hS.keep hkp (fun h => h)
  have hVy := hV.keep hkp (fun h => h)
  have hsy := hSy.lt
  have hBl := hB.lt
  have hSlt := hS.lt
  have vdy := hVy.num d hd
  have fdy := hVy.fro d
  have hgy := hVy.lt
  have hbg : w.heap.size ≠ gv := by omega
  have hbg2 : w.heap.size ≠ g := by omega
  refine (HC.out _ hSy).mono ?_
  rintro e w1 ⟨rfl, rfl⟩
  clear va vb vd fd
  go_wp2_with fail
  go_end0
  exact ⟨rfl, hSy.setTrap 3, hVy.keep ((Keep.refl _ (fun k => k = g)).setCell _ (fun _ => rfl) _) (Ne.symm hne), (hkp.mono (fun _ _ h => h.elim)).setCell _ (fun _ => .inl rfl) _⟩

set_option maxRecDepth 100000 in
set_option maxHeartbeats 1600000 in
theorem means_8n (w : World) (g gv cap : Nat) (f : Nat → Int) (ov : Value) (tr : Int) (vf : Nat → Int) (d a b k m : Nat) (op2 ty step : Int) (hd : d < 8) (ha : a < 8) (hb : b < 8) (hk16 : k < 16) (hm9 : m ≤ 9) (hi : vf a < 0 ∨ (m : Int) ≤ vf a) (hS : StF w g f ov tr) (hV : VR w gv vf) (hne : g ≠ gv) :
    Calls Tryd.prog 13 #[.pointer (some ⟨g, 0, none⟩), .agg #[.int .i64 8, .int .i64 op2, .int .i64 ty, .int .i64 (d : Int), .int .i64 (a : Int), .int .i64 (b : Int), .int .i64 (k : Int), .int .i64 (m : Int), .int .i64 step], .slice (some ⟨gv, 0, none⟩) 8 cap] w
      (Means w g gv f ov 3 vf) := by
  have va := hV.num a ha
  have vb := hV.num b hb
  have vd := hV.num d hd
  have fd := hV.fro d
  have hgv := hV.lt
  have d0 : (0 : Int) ≤ (d : Int) := by omega
  have d1 : (d : Int) < 8 := by omega
  have a0 : (0 : Int) ≤ (a : Int) := by omega
  have a1 : (a : Int) < 8 := by omega
  have b0 : (0 : Int) ≤ (b : Int) := by omega
  have b1 : (b : Int) < 8 := by omega
  have k0 : (0 : Int) ≤ (k : Int) := by omega
  have k1 : (k : Int) < 16 := by omega
  have m0 : (0 : Int) ≤ (m : Int) := by omega
  have m1 : (m : Int) ≤ 9 := by omega
  have bda := hV.bd a ha
  have ba0 := bda.1
  have ba1 := bda.2
  clear bda
  have hcell := fun W (h : StF W g f ov tr) => cell_no W g f ov tr (128 * (k : Int) + (m : Int)) (vf a) h (by omega) (by omega) ba0 ba1 (by omega)
  have HC := Lib.hid hcell
  clear hcell hi
  go_enter Tryd.func13, Tryd.ntmps13
  go_wp2_with fail
  go_quiet (fail)
  go_wp2_with fail
  have hkp : Keep w ((w.alloc (.cells #[.int .i64 8, .int .i64 op2, .int .i64 ty, .int .i64 (d : Int), .int .i64 (a : Int), .int .i64 (b : Int), .int .i64 (k : Int), .int .i64 (m : Int), .int .i64 step] 23)).drewN nq) (fun _ => False) := ((Keep.refl w _).alloc _).drewN nq
  have hB : Blk ((w.alloc (.cells #[.int .i64 8, .int .i64 op2, .int .i64 ty, .int .i64 (d : Int), .int .i64 (a : Int), .int .i64 (b : Int), .int .i64 (k : Int), .int .i64 (m : Int), .int .i64 step] 23)).drewN nq) w.heap.size 23 #[.int .i64 8, .int .i64 op2, .int .i64 ty, .int .i64 (d : Int), .int .i64 (a : Int), .int .i64 (b : Int), .int .i64 (k : Int), .int .i64 (m : Int), .int .i64 step] := (Blk.new w _ _).drewN nq
  have hSy := hS.keep hkp (fun h => h)
  have hVy := hV.keep hkp (fun h => h)
  have hsy := hSy.lt
  have hBl := hB.lt
  have hSlt := hS.lt
  have vdy := hVy.num d hd
  have fdy := hVy.fro d
  have hgy := hVy.lt
  have hbg : w.heap.size ≠ gv := by omega
  have hbg2 : w.heap.size ≠ g := by omega
  refine (HC.out _ hSy).mono ?_
  rintro e w1 ⟨rfl, rfl⟩
  clear va vb vd fd
  go_wp2_with fail
  go_end0
  exact ⟨rfl, hSy.setTrap 3, hVy.keep ((Keep.refl _ (fun k => k = g)).setCell _ (fun _ => rfl) _) (Ne.symm hne), (hkp.mono (fun _ _ h => h.elim)).setCell _ (fun _ => .inl rfl) _⟩

set_option maxRecDepth 100000 in
set_option maxHeartbeats 1600000 in
theorem means_10 (w : World) (g gv cap : Nat) (f : Nat → Int) (ov : Value) (tr : Int) (vf : Nat → Int) (d a b k m : Nat) (op2 ty step : Int) (hd : d < 8) (ha : a < 8) (hb : b < 8) (hk16 : k < 16) (hm9 : m ≤ 9) (base : Nat) (os : List Int) (hO : OutR w base ov os) (hog : ov.ownBlock ≠ some g) (hogv : ov.ownBlock ≠ some gv) (hol : os.length < 1000000000) (hS : StF w g f ov tr) (hV : VR w gv vf) (hne : g ≠ gv) :
    Calls Tryd.prog 13 #[.pointer (some ⟨g, 0, none⟩), .agg #[.int .i64 10, .int .i64 op2, .int .i64 ty, .int .i64 (d : Int), .int .i64 (a : Int), .int .i64 (b : Int), .int .i64 (k : Int), .int .i64 (m : Int), .int .i64 step], .slice (some ⟨gv, 0, none⟩) 8 cap] w
      (MeansO w g gv base ov f (os ++ [vf a, (k : Int)]) tr vf) := by
  have va := hV.num a ha
  have vb := hV.num b hb
  have vd := hV.num d hd
  have fd := hV.fro d
  have hgv := hV.lt
  have d0 : (0 : Int) ≤ (d : Int) := by omega
  have d1 : (d : Int) < 8 := by omega
  have a0 : (0 : Int) ≤ (a : Int) := by omega
  have a1 : (a : Int) < 8 := by omega
  have b0 : (0 : Int) ≤ (b : Int) := by omega
  have b1 : (b : Int) < 8 := by omega
  have k0 : (0 : Int) ≤ (k : Int) := by omega
  have k1 : (k : Int) < 16 := by omega
  have m0 : (0 : Int) ≤ (m : Int) := by omega
  have m1 : (m : Int) ≤ 9 := by omega
  have bda := hV.bd a ha
  have ba0 := bda.1
  have ba1 := bda.2
  clear bda
  obtain ⟨i0, hi0, hz0, hz1, hz2⟩ := info_parts infoI32
  have hwk : IntKind.i32.wrap (k : Int) = (k : Int) := IntWalk.i32_in _ (by omega)
  go_enter Tryd.func13, Tryd.ntmps13
  go_wp2_with fail
  go_quiet (fail)
  go_wp2_with fail
  have hkp : Keep w ((w.alloc (.cells #[.int .i64 10, .int .i64 op2, .int .i64 ty, .int .i64 (d : Int), .int .i64 (a : Int), .int .i64 (b : Int), .int .i64 (k : Int), .int .i64 (m : Int), .int .i64 step] 23)).drewN nq) (fun _ => False) := ((Keep.refl w _).alloc _).drewN nq
  have hB : Blk ((w.alloc (.cells #[.int .i64 10, .int .i64 op2, .int .i64 ty, .int .i64 (d : Int), .int .i64 (a : Int), .int .i64 (b : Int), .int .i64 (k : Int), .int .i64 (m : Int), .int .i64 step] 23)).drewN nq) w.heap.size 23 #[.int .i64 10, .int .i64 op2, .int .i64 ty, .int .i64 (d : Int), .int .i64 (a : Int), .int .i64 (b : Int), .int .i64 (k : Int), .int .i64 (m : Int), .int .i64 step] := (Blk.new w _ _).drewN nq
  have hSy := hS.keep hkp (fun h => h)
  have hVy := hV.keep hkp (fun h => h)
  have hsy := hSy.lt
  have hBl := hB.lt
  have hSlt := hS.lt
  have vdy := hVy.num d hd
  have fdy := hVy.fro d
  have hgy := hVy.lt
  have hbg : w.heap.size ≠ gv := by omega
  have hbg2 : w.heap.size ≠ g := by omega
  have hOy := hO.keep hkp (fun _ _ h => h)
  have hown := hOy.own
  have hlow := hOy.low
  generalize (w.alloc (.cells #[.int .i64 10, .int .i64 op2, .int .i64 ty, .int .i64 (d : Int), .int .i64 (a : Int), .int .i64 (b : Int), .int .i64 (k : Int), .int .i64 (m : Int), .int .i64 step] 23)).drewN nq = wy at *
  have hkb : w.heap.size ≤ wy.heap.size := hkp.size
  clear va vb vd fd
  have c72 := hSy.out
  have f72 := hSy.fro 72
  have i6 := hB.cell 6
  simp at i6
  have hsz : wy.heap.size ≠ g := by omega
  have hgn : some g ≠ ov.ownBlock := fun h => hog h.symm
  go_region_law
    (refine step_append_lies _ (by rfl) _ _ _ (by rfl) base 21 i0 _ 1 4 Tryd.underlying40 hi0 hz0 hz1 hz2 rfl (by omega) ov os.length (i32Cells os) (by rfl) ((hown.alloc _).drew) ⟨wy.heap.size, 0, none⟩ 2 2 (i32Cells [vf a, (k : Int)]) (by rfl) (by rfl) (World.news_of_block (cs := (i32Cells [vf a, (k : Int)]).toArray) (t := 21) (fr := (0, 0)) (heap_alloc_new wy _)) (i32Cells_one _) (by omega) (by unfold maxLen; omega) (by omega) (by simp; omega) (wy.heap.size + 1) (by simp) ?_; intro gg cap2 w1 hown1 hgrow hat hlt; have k0 : w1.cell? ⟨g, 72, none⟩ = some ov := (hgrow.cell_far ⟨g, 72, none⟩ (by simp; omega) hgn).trans (by simp [World.cell?_alloc_some, c72]); have k1 : w1.frozen? ⟨g, 72, none⟩ = false := (hgrow.frozen_far ⟨g, 72, none⟩ (by simp; omega) hgn).trans (by simp [frozen?_alloc_cells, f72]); have HAT := Lib.hid hat; clear hat)
  all_goals go_wp2_with fail
  all_goals go_end0
  all_goals
    have hgg : gg ≠ g := by
      rintro rfl
      rcases HAT.out with h | h
      · exact hog h
      · omega
    have hK1 : Keep wy w1 (fun k => ov.ownBlock = some k) := (((Keep.refl wy _).alloc _).drew).grown hgrow (fun k hk _ => hk)
    have hK2 := (hkp.mono (S' := fun k => k = g ∨ k = gv ∨ ov.ownBlock = some k) (fun _ _ h => h.elim)).trans hK1 (fun k _ h => .inr (.inr h))
    have hK3 := hK2.setCell ⟨g, 72, none⟩ (fun _ => .inl rfl) (.slice (some ⟨gg, 0, none⟩) (os.length + 2) cap2)
    refine ⟨rfl, .slice (some ⟨gg, 0, none⟩) (os.length + 2) cap2, (hSy.keep hK1 (fun h => hog h)).setOut _, (hVy.keep hK1 (fun h => hogv h)).keep ((Keep.refl _ (fun k => k = g)).setCell ⟨g, 72, none⟩ (fun _ => rfl) _) (Ne.symm hne), ⟨?_, by have := hK1.size; simp [World.setCell]; omega⟩, hK3, ?_⟩
    · rw [i32Cells_append, List.length_append]
      exact setRow_own hown1 ⟨g, 72, none⟩ _ (by simpa [Value.ownBlock] using hgg)
    · intro j hj
      simp only [Value.ownBlock, Option.some.injEq] at hj
      subst hj
      rcases HAT.out with h | h
      · exact .inl h
      · exact .inr (by omega)

set_option maxRecDepth 100000 in
set_option maxHeartbeats 1600000 in
theorem means_14 (w : World) (g gv cap : Nat) (f : Nat → Int) (ov : Value) (tr : Int) (vf : Nat → Int) (d a b k m : Nat) (op2 ty step : Int) (hd : d < 8) (ha : a < 8) (hb : b < 8) (hk16 : k < 16) (hm9 : m ≤ 9) (base : Nat) (os : List Int) (hO : OutR w base ov os) (hog : ov.ownBlock ≠ some g) (hogv : ov.ownBlock ≠ some gv) (hol : os.length < 1000000000) (hS : StF w g f ov tr) (hV : VR w gv vf) (hne : g ≠ gv) :
    Calls Tryd.prog 13 #[.pointer (some ⟨g, 0, none⟩), .agg #[.int .i64 14, .int .i64 op2, .int .i64 ty, .int .i64 (d : Int), .int .i64 (a : Int), .int .i64 (b : Int), .int .i64 (k : Int), .int .i64 (m : Int), .int .i64 step], .slice (some ⟨gv, 0, none⟩) 8 cap] w
      (MeansO w g gv base ov f (os ++ [vf a, (k : Int)]) tr vf) := by
  have va := hV.num a ha
  have vb := hV.num b hb
  have vd := hV.num d hd
  have fd := hV.fro d
  have hgv := hV.lt
  have d0 : (0 : Int) ≤ (d : Int) := by omega
  have d1 : (d : Int) < 8 := by omega
  have a0 : (0 : Int) ≤ (a : Int) := by omega
  have a1 : (a : Int) < 8 := by omega
  have b0 : (0 : Int) ≤ (b : Int) := by omega
  have b1 : (b : Int) < 8 := by omega
  have k0 : (0 : Int) ≤ (k : Int) := by omega
  have k1 : (k : Int) < 16 := by omega
  have m0 : (0 : Int) ≤ (m : Int) := by omega
  have m1 : (m : Int) ≤ 9 := by omega
  have bda := hV.bd a ha
  have ba0 := bda.1
  have ba1 := bda.2
  clear bda
  obtain ⟨i0, hi0, hz0, hz1, hz2⟩ := info_parts infoI32
  have hwk : IntKind.i32.wrap (k : Int) = (k : Int) := IntWalk.i32_in _ (by omega)
  go_enter Tryd.func13, Tryd.ntmps13
  go_wp2_with fail
  go_quiet (fail)
  go_wp2_with fail
  have hkp : Keep w ((w.alloc (.cells #[.int .i64 14, .int .i64 op2, .int .i64 ty, .int .i64 (d : Int), .int .i64 (a : Int), .int .i64 (b : Int), .int .i64 (k : Int), .int .i64 (m : Int), .int .i64 step] 23)).drewN nq) (fun _ => False) := ((Keep.refl w _).alloc _).drewN nq
  have hB : Blk ((w.alloc (.cells #[.int .i64 14, .int .i64 op2, .int .i64 ty, .int .i64 (d : Int), .int .i64 (a : Int), .int .i64 (b : Int), .int .i64 (k : Int), .int .i64 (m : Int), .int .i64 step] 23)).drewN nq) w.heap.size 23 #[.int .i64 14, .int .i64 op2, .int .i64 ty, .int .i64 (d : Int), .int .i64 (a : Int), .int .i64 (b : Int), .int .i64 (k : Int), .int .i64 (m : Int), .int .i64 step] := (Blk.new w _ _).drewN nq
  have hSy := hS.keep hkp (fun h => h)
  have hVy := hV.keep hkp (fun h => h)
  have hsy := hSy.lt
  have hBl := hB.lt
  have hSlt := hS.lt
  have vdy := hVy.num d hd
  have fdy := hVy.fro d
  have hgy := hVy.lt
  have hbg : w.heap.size ≠ gv := by omega
  have hbg2 : w.heap.size ≠ g := by omega
  have hOy := hO.keep hkp (fun _ _ h => h)
  have hown := hOy.own
  have hlow := hOy.low
  generalize (w.alloc (.cells #[.int .i64 14, .int .i64 op2, .int .i64 ty, .int .i64 (d : Int), .int .i64 (a : Int), .int .i64 (b : Int), .int .i64 (k : Int), .int .i64 (m : Int), .int .i64 step] 23)).drewN nq = wy at *
  have hkb : w.heap.size ≤ wy.heap.size := hkp.size
  clear va vb vd fd
  have c72 := hSy.out
  have f72 := hSy.fro 72
  have i6 := hB.cell 6
  simp at i6
  have hsz : wy.heap.size ≠ g := by omega
  have hgn : some g ≠ ov.ownBlock := fun h => hog h.symm
  go_region_law
    (refine step_append_lies _ (by rfl) _ _ _ (by rfl) base 21 i0 _ 1 4 Tryd.underlying40 hi0 hz0 hz1 hz2 rfl (by omega) ov os.length (i32Cells os) (by rfl) ((hown.alloc _).drew) ⟨wy.heap.size, 0, none⟩ 2 2 (i32Cells [vf a, (k : Int)]) (by rfl) (by rfl) (World.news_of_block (cs := (i32Cells [vf a, (k : Int)]).toArray) (t := 21) (fr := (0, 0)) (heap_alloc_new wy _)) (i32Cells_one _) (by omega) (by unfold maxLen; omega) (by omega) (by simp; omega) (wy.heap.size + 1) (by simp) ?_; intro gg cap2 w1 hown1 hgrow hat hlt; have k0 : w1.cell? ⟨g, 72, none⟩ = some ov := (hgrow.cell_far ⟨g, 72, none⟩ (by simp; omega) hgn).trans (by simp [World.cell?_alloc_some, c72]); have k1 : w1.frozen? ⟨g, 72, none⟩ = false := (hgrow.frozen_far ⟨g, 72, none⟩ (by simp; omega) hgn).trans (by simp [frozen?_alloc_cells, f72]); have HAT := Lib.hid hat; clear hat)
  all_goals go_wp2_with fail
  all_goals go_end0
  all_goals
    have hgg : gg ≠ g := by
      rintro rfl
      rcases HAT.out with h | h
      · exact hog h
      · omega
    have hK1 : Keep wy w1 (fun k => ov.ownBlock = some k) := (((Keep.refl wy _).alloc _).drew).grown hgrow (fun k hk _ => hk)
    have hK2 := (hkp.mono (S' := fun k => k = g ∨ k = gv ∨ ov.ownBlock = some k) (fun _ _ h => h.elim)).trans hK1 (fun k _ h => .inr (.inr h))
    have hK3 := hK2.setCell ⟨g, 72, none⟩ (fun _ => .inl rfl) (.slice (some ⟨gg, 0, none⟩) (os.length + 2) cap2)
    refine ⟨rfl, .slice (some ⟨gg, 0, none⟩) (os.length + 2) cap2, (hSy.keep hK1 (fun h => hog h)).setOut _, (hVy.keep hK1 (fun h => hogv h)).keep ((Keep.refl _ (fun k => k = g)).setCell ⟨g, 72, none⟩ (fun _ => rfl) _) (Ne.symm hne), ⟨?_, by have := hK1.size; simp [World.setCell]; omega⟩, hK3, ?_⟩
    · rw [i32Cells_append, List.length_append]
      exact setRow_own hown1 ⟨g, 72, none⟩ _ (by simpa [Value.ownBlock] using hgg)
    · intro j hj
      simp only [Value.ownBlock, Option.some.injEq] at hj
      subst hj
      rcases HAT.out with h | h
      · exact .inl h
      · exact .inr (by omega)

set_option maxRecDepth 100000 in
set_option maxHeartbeats 1600000 in
theorem means_16 (w : World) (g gv cap : Nat) (f : Nat → Int) (ov : Value) (tr : Int) (vf : Nat → Int) (d a b k m : Nat) (op2 ty step : Int) (hd : d < 8) (ha : a < 8) (hb : b < 8) (hk16 : k < 16) (hm9 : m ≤ 9) (base : Nat) (os : List Int) (hO : OutR w base ov os) (hog : ov.ownBlock ≠ some g) (hogv : ov.ownBlock ≠ some gv) (hol : os.length < 1000000000) (hS : StF w g f ov tr) (hV : VR w gv vf) (hne : g ≠ gv) :
    Calls Tryd.prog 13 #[.pointer (some ⟨g, 0, none⟩), .agg #[.int .i64 16, .int .i64 op2, .int .i64 ty, .int .i64 (d : Int), .int .i64 (a : Int), .int .i64 (b : Int), .int .i64 (k : Int), .int .i64 (m : Int), .int .i64 step], .slice (some ⟨gv, 0, none⟩) 8 cap] w
      (MeansO w g gv base ov f (os ++ [vf a, (k : Int)]) tr vf) := by
  have va := hV.num a ha
  have vb := hV.num b hb
  have vd := hV.num d hd
  have fd := hV.fro d
  have hgv := hV.lt
  have d0 : (0 : Int) ≤ (d : Int) := by omega
  have d1 : (d : Int) < 8 := by omega
  have a0 : (0 : Int) ≤ (a : Int) := by omega
  have a1 : (a : Int) < 8 := by omega
  have b0 : (0 : Int) ≤ (b : Int) := by omega
  have b1 : (b : Int) < 8 := by omega
  have k0 : (0 : Int) ≤ (k : Int) := by omega
  have k1 : (k : Int) < 16 := by omega
  have m0 : (0 : Int) ≤ (m : Int) := by omega
  have m1 : (m : Int) ≤ 9 := by omega
  have bda := hV.bd a ha
  have ba0 := bda.1
  have ba1 := bda.2
  clear bda
  obtain ⟨i0, hi0, hz0, hz1, hz2⟩ := info_parts infoI32
  have hwk : IntKind.i32.wrap (k : Int) = (k : Int) := IntWalk.i32_in _ (by omega)
  go_enter Tryd.func13, Tryd.ntmps13
  go_wp2_with fail
  go_quiet (fail)
  go_wp2_with fail
  have hkp : Keep w ((w.alloc (.cells #[.int .i64 16, .int .i64 op2, .int .i64 ty, .int .i64 (d : Int), .int .i64 (a : Int), .int .i64 (b : Int), .int .i64 (k : Int), .int .i64 (m : Int), .int .i64 step] 23)).drewN nq) (fun _ => False) := ((Keep.refl w _).alloc _).drewN nq
  have hB : Blk ((w.alloc (.cells #[.int .i64 16, .int .i64 op2, .int .i64 ty, .int .i64 (d : Int), .int .i64 (a : Int), .int .i64 (b : Int), .int .i64 (k : Int), .int .i64 (m : Int), .int .i64 step] 23)).drewN nq) w.heap.size 23 #[.int .i64 16, .int .i64 op2, .int .i64 ty, .int .i64 (d : Int), .int .i64 (a : Int), .int .i64 (b : Int), .int .i64 (k : Int), .int .i64 (m : Int), .int .i64 step] := (Blk.new w _ _).drewN nq
  have hSy := hS.keep hkp (fun h => h)
  have hVy := hV.keep hkp (fun h => h)
  have hsy := hSy.lt
  have hBl := hB.lt
  have hSlt := hS.lt
  have vdy := hVy.num d hd
  have fdy := hVy.fro d
  have hgy := hVy.lt
  have hbg : w.heap.size ≠ gv := by omega
  have hbg2 : w.heap.size ≠ g := by omega
  have hOy := hO.keep hkp (fun _ _ h => h)
  have hown := hOy.own
  have hlow := hOy.low
  generalize (w.alloc (.cells #[.int .i64 16, .int .i64 op2, .int .i64 ty, .int .i64 (d : Int), .int .i64 (a : Int), .int .i64 (b : Int), .int .i64 (k : Int), .int .i64 (m : Int), .int .i64 step] 23)).drewN nq = wy at *
  have hkb : w.heap.size ≤ wy.heap.size := hkp.size
  clear va vb vd fd
  have c72 := hSy.out
  have f72 := hSy.fro 72
  have i6 := hB.cell 6
  simp at i6
  have hsz : wy.heap.size ≠ g := by omega
  have hgn : some g ≠ ov.ownBlock := fun h => hog h.symm
  go_region_law
    (refine step_append_lies _ (by rfl) _ _ _ (by rfl) base 21 i0 _ 1 4 Tryd.underlying40 hi0 hz0 hz1 hz2 rfl (by omega) ov os.length (i32Cells os) (by rfl) ((hown.alloc _).drew) ⟨wy.heap.size, 0, none⟩ 2 2 (i32Cells [vf a, (k : Int)]) (by rfl) (by rfl) (World.news_of_block (cs := (i32Cells [vf a, (k : Int)]).toArray) (t := 21) (fr := (0, 0)) (heap_alloc_new wy _)) (i32Cells_one _) (by omega) (by unfold maxLen; omega) (by omega) (by simp; omega) (wy.heap.size + 1) (by simp) ?_; intro gg cap2 w1 hown1 hgrow hat hlt; have k0 : w1.cell? ⟨g, 72, none⟩ = some ov := (hgrow.cell_far ⟨g, 72, none⟩ (by simp; omega) hgn).trans (by simp [World.cell?_alloc_some, c72]); have k1 : w1.frozen? ⟨g, 72, none⟩ = false := (hgrow.frozen_far ⟨g, 72, none⟩ (by simp; omega) hgn).trans (by simp [frozen?_alloc_cells, f72]); have HAT := Lib.hid hat; clear hat)
  all_goals go_wp2_with fail
  all_goals go_end0
  all_goals
    have hgg : gg ≠ g := by
      rintro rfl
      rcases HAT.out with h | h
      · exact hog h
      · omega
    have hK1 : Keep wy w1 (fun k => ov.ownBlock = some k) := (((Keep.refl wy _).alloc _).drew).grown hgrow (fun k hk _ => hk)
    have hK2 := (hkp.mono (S' := fun k => k = g ∨ k = gv ∨ ov.ownBlock = some k) (fun _ _ h => h.elim)).trans hK1 (fun k _ h => .inr (.inr h))
    have hK3 := hK2.setCell ⟨g, 72, none⟩ (fun _ => .inl rfl) (.slice (some ⟨gg, 0, none⟩) (os.length + 2) cap2)
    refine ⟨rfl, .slice (some ⟨gg, 0, none⟩) (os.length + 2) cap2, (hSy.keep hK1 (fun h => hog h)).setOut _, (hVy.keep hK1 (fun h => hogv h)).keep ((Keep.refl _ (fun k => k = g)).setCell ⟨g, 72, none⟩ (fun _ => rfl) _) (Ne.symm hne), ⟨?_, by have := hK1.size; simp [World.setCell]; omega⟩, hK3, ?_⟩
    · rw [i32Cells_append, List.length_append]
      exact setRow_own hown1 ⟨g, 72, none⟩ _ (by simpa [Value.ownBlock] using hgg)
    · intro j hj
      simp only [Value.ownBlock, Option.some.injEq] at hj
      subst hj
      rcases HAT.out with h | h
      · exact .inl h
      · exact .inr (by omega)
end Go.Proofs.YthkiajbgdamjgaaDoor

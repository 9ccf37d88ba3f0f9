/- The law's do at elements, and at what is put out. Conditions: registers below 8, numbers in range. -/
import Derived.Test.YthkiajbgdamjgaaDoorDoB2
import Derived.Test.YthkiajbgdamjgaaDoorDoC
namespace Go.Proofs.YthkiajbgdamjgaaDoor
open Go.RowKit
set_option linter.unusedVariables false
attribute [local irreducible] Blk

/-- What a call of do leaves, with what was put out. -/
def DoesO (w : World) (g base : Nat) (ov : Value) (f : Nat → Int) (os : List Int) (tr : Int) (e : Ending) (w' : World) : Prop :=
  e = .returned (.bool true) ∧ ∃ ov', StF w' g f ov' tr ∧ OutR w' base ov' os ∧ Keep w w' (fun k => k = g ∨ ov.ownBlock = some k) ∧ Fresh w ov ov'

set_option maxRecDepth 100000 in
set_option maxHeartbeats 1600000 in
theorem do_8y (w : World) (g : Nat) (f : Nat → Int) (ov : Value) (tr : Int) (a b c : Nat) (n : Int) (ha : a < 8) (hb : b < 8) (hc : c < 8) (n0 : 0 ≤ n) (n1 : n ≤ 2147483647) (i0 : 0 ≤ f b) (i1 : f b < n % 128) (hS : StF w g f ov tr) :
    Calls Tryd.prog 14 #[.pointer (some ⟨g, 0, none⟩), .agg #[.int .u8 8, .int .u8 (a : Int), .int .u8 (b : Int), .int .u8 (c : Int), .int .i32 n]] w (Does w g (upd f a (f (48 + (cellAt n (f b)).toNat))) ov tr) := by
  have sa := hS.num a (by omega)
  have sb := hS.num b (by omega)
  have sc := hS.num c (by omega)
  have fa := hS.fro a
  have hgl := hS.lt
  have hga : w.heap.size ≠ g := by omega
  have a0 : (0 : Int) ≤ (a : Int) := by omega
  have a1 : (a : Int) < 8 := by omega
  have b0 : (0 : Int) ≤ (b : Int) := by omega
  have b1 : (b : Int) < 8 := by omega
  have c0 : (0 : Int) ≤ (c : Int) := by omega
  have c1 : (c : Int) < 8 := by omega
  have ga : decide ((7 : Int) < (a : Int)) = false := by simp; omega
  have gb : decide ((7 : Int) < (b : Int)) = false := by simp; omega
  have gc : decide ((7 : Int) < (c : Int)) = false := by simp; omega
  have bdb := hS.bd b (by omega)
  have bb0 := bdb.1
  have bb1 := bdb.2
  clear bdb
  have hcell := fun W => cell_yes W g n (f b) n0 n1 i0 i1
  obtain ⟨q, hq, hq16⟩ := cellAt_nat n (f b)
  rw [hq] at hcell
  have HC := Lib.hid hcell
  have q0 : (0 : Int) ≤ (q : Int) := by omega
  have q1 : (q : Int) < 16 := by omega
  clear hcell i0 i1
  go_enter Tryd.func14, Tryd.ntmps14
  go_wp2_with fail
  go_quiet (fail)
  go_wp2_with fail
  refine (HC.out _).mono ?_
  rintro e w1 ⟨rfl, rfl⟩
  have hkp : Keep w ((w.alloc (.cells #[.int .u8 8, .int .u8 (a : Int), .int .u8 (b : Int), .int .u8 (c : Int), .int .i32 n] 49)).drewN nq) (fun _ => False) := ((Keep.refl w _).alloc _).drewN nq
  have hB : Blk ((w.alloc (.cells #[.int .u8 8, .int .u8 (a : Int), .int .u8 (b : Int), .int .u8 (c : Int), .int .i32 n] 49)).drewN nq) w.heap.size 49 #[.int .u8 8, .int .u8 (a : Int), .int .u8 (b : Int), .int .u8 (c : Int), .int .i32 n] := (Blk.new w _ _).drewN nq
  have hSy := hS.keep hkp (fun h => h)
  have hsy := hSy.lt
  have hBl := hB.lt
  have say := hSy.num a (by omega)
  have fay := hSy.fro a
  clear sa sb sc fa
  have rj := hSy.num (48 + q) (by omega)
  generalize (w.alloc (.cells #[.int .u8 8, .int .u8 (a : Int), .int .u8 (b : Int), .int .u8 (c : Int), .int .i32 n] 49)).drewN nq = wy at *
  go_wp2_with fail
  go_ret
  have hw := hS.bd (48 + q) (by omega)
  rw [hq, Int.toNat_natCast]
  exact ⟨rfl, hSy.set (k := a) (by omega) _ hw.1 hw.2, keep_set hkp g a (.int .i32 (f (48 + q)))⟩

set_option maxRecDepth 100000 in
set_option maxHeartbeats 1600000 in
theorem do_9y (w : World) (g : Nat) (f : Nat → Int) (ov : Value) (tr : Int) (a b c : Nat) (n : Int) (ha : a < 8) (hb : b < 8) (hc : c < 8) (n0 : 0 ≤ n) (n1 : n ≤ 2147483647) (i0 : 0 ≤ f b) (i1 : f b < n % 128) (hS : StF w g f ov tr) :
    Calls Tryd.prog 14 #[.pointer (some ⟨g, 0, none⟩), .agg #[.int .u8 9, .int .u8 (a : Int), .int .u8 (b : Int), .int .u8 (c : Int), .int .i32 n]] w (Does w g (upd f (48 + (cellAt n (f b)).toNat) (f a)) ov tr) := by
  have sa := hS.num a (by omega)
  have sb := hS.num b (by omega)
  have sc := hS.num c (by omega)
  have fa := hS.fro a
  have hgl := hS.lt
  have hga : w.heap.size ≠ g := by omega
  have a0 : (0 : Int) ≤ (a : Int) := by omega
  have a1 : (a : Int) < 8 := by omega
  have b0 : (0 : Int) ≤ (b : Int) := by omega
  have b1 : (b : Int) < 8 := by omega
  have c0 : (0 : Int) ≤ (c : Int) := by omega
  have c1 : (c : Int) < 8 := by omega
  have ga : decide ((7 : Int) < (a : Int)) = false := by simp; omega
  have gb : decide ((7 : Int) < (b : Int)) = false := by simp; omega
  have gc : decide ((7 : Int) < (c : Int)) = false := by simp; omega
  have bdb := hS.bd b (by omega)
  have bb0 := bdb.1
  have bb1 := bdb.2
  clear bdb
  have hcell := fun W => cell_yes W g n (f b) n0 n1 i0 i1
  obtain ⟨q, hq, hq16⟩ := cellAt_nat n (f b)
  rw [hq] at hcell
  have HC := Lib.hid hcell
  have q0 : (0 : Int) ≤ (q : Int) := by omega
  have q1 : (q : Int) < 16 := by omega
  clear hcell i0 i1
  go_enter Tryd.func14, Tryd.ntmps14
  go_wp2_with fail
  go_quiet (fail)
  go_wp2_with fail
  refine (HC.out _).mono ?_
  rintro e w1 ⟨rfl, rfl⟩
  have hkp : Keep w ((w.alloc (.cells #[.int .u8 9, .int .u8 (a : Int), .int .u8 (b : Int), .int .u8 (c : Int), .int .i32 n] 49)).drewN nq) (fun _ => False) := ((Keep.refl w _).alloc _).drewN nq
  have hB : Blk ((w.alloc (.cells #[.int .u8 9, .int .u8 (a : Int), .int .u8 (b : Int), .int .u8 (c : Int), .int .i32 n] 49)).drewN nq) w.heap.size 49 #[.int .u8 9, .int .u8 (a : Int), .int .u8 (b : Int), .int .u8 (c : Int), .int .i32 n] := (Blk.new w _ _).drewN nq
  have hSy := hS.keep hkp (fun h => h)
  have hsy := hSy.lt
  have hBl := hB.lt
  have say := hSy.num a (by omega)
  have fay := hSy.fro a
  clear sa sb sc fa
  have rj := hSy.num (48 + q) (by omega)
  have fj := hSy.fro (48 + q)
  generalize (w.alloc (.cells #[.int .u8 9, .int .u8 (a : Int), .int .u8 (b : Int), .int .u8 (c : Int), .int .i32 n] 49)).drewN nq = wy at *
  go_wp2_with fail
  go_region_held3 (fun w' => w'.cell? ⟨g, a, none⟩ = some (.int .i32 (f a)))
    (first
      | (exact say)
      | (exact (cell_other _ (by omega)).trans say))
    (fail)
  all_goals
    go_wp2_with fail
    go_ret
    have hw := hS.bd a (by omega)
    rw [hq, Int.toNat_natCast]
    exact ⟨rfl, (hSy.set (k := 48 + q) (by omega) _ hw.1 hw.2).keep ((Keep.refl _ (fun _ => False)).drew) (fun h => h), (keep_set hkp g (48 + q) (.int .i32 (f a))).drew⟩

set_option maxRecDepth 100000 in
set_option maxHeartbeats 1600000 in
theorem do_8n (w : World) (g : Nat) (f : Nat → Int) (ov : Value) (tr : Int) (a b c : Nat) (n : Int) (ha : a < 8) (hb : b < 8) (hc : c < 8) (n0 : 0 ≤ n) (n1 : n ≤ 2147483647) (hi : f b < 0 ∨ n % 128 ≤ f b) (hS : StF w g f ov tr) :
    Calls Tryd.prog 14 #[.pointer (some ⟨g, 0, none⟩), .agg #[.int .u8 8, .int .u8 (a : Int), .int .u8 (b : Int), .int .u8 (c : Int), .int .i32 n]] w (Does w g (f) ov 3) := by
  have sa := hS.num a (by omega)
  have sb := hS.num b (by omega)
  have sc := hS.num c (by omega)
  have fa := hS.fro a
  have hgl := hS.lt
  have hga : w.heap.size ≠ g := by omega
  have a0 : (0 : Int) ≤ (a : Int) := by omega
  have a1 : (a : Int) < 8 := by omega
  have b0 : (0 : Int) ≤ (b : Int) := by omega
  have b1 : (b : Int) < 8 := by omega
  have c0 : (0 : Int) ≤ (c : Int) := by omega
  have c1 : (c : Int) < 8 := by omega
  have ga : decide ((7 : Int) < (a : Int)) = false := by simp; omega
  have gb : decide ((7 : Int) < (b : Int)) = false := by simp; omega
  have gc : decide ((7 : Int) < (c : Int)) = false := by simp; omega
  have bdb := hS.bd b (by omega)
  have bb0 := bdb.1
  have bb1 := bdb.2
  clear bdb
  have hcell := fun W (h : StF W g f ov tr) => cell_no W g f ov tr n (f b) h n0 n1 bb0 bb1 hi
  have HC := Lib.hid hcell
  clear hcell hi
  go_enter Tryd.func14, Tryd.ntmps14
  go_wp2_with fail
  go_quiet (fail)
  go_wp2_with fail
  have hkp : Keep w ((w.alloc (.cells #[.int .u8 8, .int .u8 (a : Int), .int .u8 (b : Int), .int .u8 (c : Int), .int .i32 n] 49)).drewN nq) (fun _ => False) := ((Keep.refl w _).alloc _).drewN nq
  have hB : Blk ((w.alloc (.cells #[.int .u8 8, .int .u8 (a : Int), .int .u8 (b : Int), .int .u8 (c : Int), .int .i32 n] 49)).drewN nq) w.heap.size 49 #[.int .u8 8, .int .u8 (a : Int), .int .u8 (b : Int), .int .u8 (c : Int), .int .i32 n] := (Blk.new w _ _).drewN nq
  have hSy := hS.keep hkp (fun h => h)
  have hsy := hSy.lt
  have hBl := hB.lt
  have say := hSy.num a (by omega)
  have fay := hSy.fro a
  clear sa sb sc fa
  refine (HC.out _ hSy).mono ?_
  rintro e w1 ⟨rfl, rfl⟩
  go_wp2_with fail
  go_ret
  exact ⟨rfl, hSy.setTrap 3, keep_set hkp _ _ _⟩

set_option maxRecDepth 100000 in
set_option maxHeartbeats 1600000 in
theorem do_9n (w : World) (g : Nat) (f : Nat → Int) (ov : Value) (tr : Int) (a b c : Nat) (n : Int) (ha : a < 8) (hb : b < 8) (hc : c < 8) (n0 : 0 ≤ n) (n1 : n ≤ 2147483647) (hi : f b < 0 ∨ n % 128 ≤ f b) (hS : StF w g f ov tr) :
    Calls Tryd.prog 14 #[.pointer (some ⟨g, 0, none⟩), .agg #[.int .u8 9, .int .u8 (a : Int), .int .u8 (b : Int), .int .u8 (c : Int), .int .i32 n]] w (Does w g (f) ov 3) := by
  have sa := hS.num a (by omega)
  have sb := hS.num b (by omega)
  have sc := hS.num c (by omega)
  have fa := hS.fro a
  have hgl := hS.lt
  have hga : w.heap.size ≠ g := by omega
  have a0 : (0 : Int) ≤ (a : Int) := by omega
  have a1 : (a : Int) < 8 := by omega
  have b0 : (0 : Int) ≤ (b : Int) := by omega
  have b1 : (b : Int) < 8 := by omega
  have c0 : (0 : Int) ≤ (c : Int) := by omega
  have c1 : (c : Int) < 8 := by omega
  have ga : decide ((7 : Int) < (a : Int)) = false := by simp; omega
  have gb : decide ((7 : Int) < (b : Int)) = false := by simp; omega
  have gc : decide ((7 : Int) < (c : Int)) = false := by simp; omega
  have bdb := hS.bd b (by omega)
  have bb0 := bdb.1
  have bb1 := bdb.2
  clear bdb
  have hcell := fun W (h : StF W g f ov tr) => cell_no W g f ov tr n (f b) h n0 n1 bb0 bb1 hi
  have HC := Lib.hid hcell
  clear hcell hi
  go_enter Tryd.func14, Tryd.ntmps14
  go_wp2_with fail
  go_quiet (fail)
  go_wp2_with fail
  have hkp : Keep w ((w.alloc (.cells #[.int .u8 9, .int .u8 (a : Int), .int .u8 (b : Int), .int .u8 (c : Int), .int .i32 n] 49)).drewN nq) (fun _ => False) := ((Keep.refl w _).alloc _).drewN nq
  have hB : Blk ((w.alloc (.cells #[.int .u8 9, .int .u8 (a : Int), .int .u8 (b : Int), .int .u8 (c : Int), .int .i32 n] 49)).drewN nq) w.heap.size 49 #[.int .u8 9, .int .u8 (a : Int), .int .u8 (b : Int), .int .u8 (c : Int), .int .i32 n] := (Blk.new w _ _).drewN nq
  have hSy := hS.keep hkp (fun h => h)
  have hsy := hSy.lt
  have hBl := hB.lt
  have say := hSy.num a (by omega)
  have fay := hSy.fro a
  clear sa sb sc fa
  refine (HC.out _ hSy).mono ?_
  rintro e w1 ⟨rfl, rfl⟩
  go_wp2_with fail
  go_ret
  exact ⟨rfl, hSy.setTrap 3, keep_set hkp _ _ _⟩

set_option maxRecDepth 100000 in
set_option maxHeartbeats 1600000 in
theorem do_11 (w : World) (g : Nat) (f : Nat → Int) (ov : Value) (tr : Int) (a b c : Nat) (base : Nat) (os : List Int) (k : Nat) (ha : a < 8) (hb : b < 8) (hc : c < 8) (hk16 : k < 16) (hO : OutR w base ov os) (hog : ov.ownBlock ≠ some g) (hol : os.length < 1000000000) (hS : StF w g f ov tr) :
    Calls Tryd.prog 14 #[.pointer (some ⟨g, 0, none⟩), .agg #[.int .u8 11, .int .u8 (a : Int), .int .u8 (b : Int), .int .u8 (c : Int), .int .i32 (k : Int)]] w (DoesO w g base ov f (os ++ [f a, (k : Int)]) tr) := by
  have sa := hS.num a (by omega)
  have sb := hS.num b (by omega)
  have sc := hS.num c (by omega)
  have fa := hS.fro a
  have hgl := hS.lt
  have hga : w.heap.size ≠ g := by omega
  have a0 : (0 : Int) ≤ (a : Int) := by omega
  have a1 : (a : Int) < 8 := by omega
  have b0 : (0 : Int) ≤ (b : Int) := by omega
  have b1 : (b : Int) < 8 := by omega
  have c0 : (0 : Int) ≤ (c : Int) := by omega
  have c1 : (c : Int) < 8 := by omega
  have ga : decide ((7 : Int) < (a : Int)) = false := by simp; omega
  have gb : decide ((7 : Int) < (b : Int)) = false := by simp; omega
  have gc : decide ((7 : Int) < (c : Int)) = false := by simp; omega
  have k0 : (0 : Int) ≤ (k : Int) := by omega
  have k1 : (k : Int) < 16 := by omega
  obtain ⟨i0, hi0, hz0, hz1, hz2⟩ := info_parts infoI32
  go_enter Tryd.func14, Tryd.ntmps14
  go_wp2_with fail
  go_quiet (fail)
  go_wp2_with fail
  have hkp : Keep w ((w.alloc (.cells #[.int .u8 11, .int .u8 (a : Int), .int .u8 (b : Int), .int .u8 (c : Int), .int .i32 (k : Int)] 49)).drewN nq) (fun _ => False) := ((Keep.refl w _).alloc _).drewN nq
  have hB : Blk ((w.alloc (.cells #[.int .u8 11, .int .u8 (a : Int), .int .u8 (b : Int), .int .u8 (c : Int), .int .i32 (k : Int)] 49)).drewN nq) w.heap.size 49 #[.int .u8 11, .int .u8 (a : Int), .int .u8 (b : Int), .int .u8 (c : Int), .int .i32 (k : Int)] := (Blk.new w _ _).drewN nq
  have hSy := hS.keep hkp (fun h => h)
  have hsy := hSy.lt
  have hBl := hB.lt
  have say := hSy.num a (by omega)
  have fay := hSy.fro a
  clear sa sb sc fa
  have hOy := hO.keep hkp (fun _ _ h => h)
  have hown := hOy.own
  have hlow := hOy.low
  generalize (w.alloc (.cells #[.int .u8 11, .int .u8 (a : Int), .int .u8 (b : Int), .int .u8 (c : Int), .int .i32 (k : Int)] 49)).drewN nq = wy at *
  have hkb : w.heap.size ≤ wy.heap.size := hkp.size
  have c72 := hSy.out
  have f72 := hSy.fro 72
  have i4 := hB.cell 4
  simp at i4
  have hsz : wy.heap.size ≠ g := by omega
  have hgn : some g ≠ ov.ownBlock := fun h => hog h.symm
  go_region_law
    (refine step_append_lies _ (by rfl) _ _ _ (by rfl) base 21 i0 _ 1 4 Tryd.underlying40 hi0 hz0 hz1 hz2 rfl (by omega) ov os.length (i32Cells os) (by rfl) ((hown.alloc _).drew) ⟨wy.heap.size, 0, none⟩ 2 2 (i32Cells [f a, (k : Int)]) (by rfl) (by rfl) (World.news_of_block (cs := (i32Cells [f a, (k : Int)]).toArray) (t := 21) (fr := (0, 0)) (heap_alloc_new wy _)) (i32Cells_one _) (by omega) (by unfold maxLen; omega) (by omega) (by simp; omega) (wy.heap.size + 1) (by simp) ?_; intro gg cap2 w1 hown1 hgrow hat hlt; have k0 : w1.cell? ⟨g, 72, none⟩ = some ov := (hgrow.cell_far ⟨g, 72, none⟩ (by simp; omega) hgn).trans (by simp [World.cell?_alloc_some, c72]); have k1 : w1.frozen? ⟨g, 72, none⟩ = false := (hgrow.frozen_far ⟨g, 72, none⟩ (by simp; omega) hgn).trans (by simp [frozen?_alloc_cells, f72]); have HAT := Lib.hid hat; clear hat)
  all_goals go_wp2_with fail
  all_goals go_ret
  all_goals
    have hgg : gg ≠ g := by
      rintro rfl
      rcases HAT.out with h | h
      · exact hog h
      · omega
    have hK1 : Keep wy w1 (fun k => ov.ownBlock = some k) := (((Keep.refl wy _).alloc _).drew).grown hgrow (fun k hk _ => hk)
    have hK2 := (hkp.mono (S' := fun k => k = g ∨ ov.ownBlock = some k) (fun _ _ h => h.elim)).trans hK1 (fun k _ h => .inr h)
    have hK3 := hK2.setCell ⟨g, 72, none⟩ (fun _ => .inl rfl) (.slice (some ⟨gg, 0, none⟩) (os.length + 2) cap2)
    refine ⟨rfl, .slice (some ⟨gg, 0, none⟩) (os.length + 2) cap2, (hSy.keep hK1 (fun h => hog h)).setOut _, ⟨?_, by have := hK1.size; simp [World.setCell]; omega⟩, hK3, ?_⟩
    · rw [i32Cells_append, List.length_append]
      exact setRow_own hown1 ⟨g, 72, none⟩ _ (by simpa [Value.ownBlock] using hgg)
    · intro j hj
      simp only [Value.ownBlock, Option.some.injEq] at hj
      subst hj
      rcases HAT.out with h | h
      · exact .inl h
      · exact .inr (by omega)

set_option maxRecDepth 100000 in
set_option maxHeartbeats 1600000 in
theorem do_17 (w : World) (g : Nat) (f : Nat → Int) (ov : Value) (tr : Int) (a b c : Nat) (base : Nat) (os : List Int) (k : Nat) (ha : a < 8) (hb : b < 8) (hc : c < 8) (hk16 : k < 16) (hO : OutR w base ov os) (hog : ov.ownBlock ≠ some g) (hol : os.length < 1000000000) (hS : StF w g f ov tr) :
    Calls Tryd.prog 14 #[.pointer (some ⟨g, 0, none⟩), .agg #[.int .u8 17, .int .u8 (a : Int), .int .u8 (b : Int), .int .u8 (c : Int), .int .i32 (k : Int)]] w (DoesO w g base ov f (os ++ [f a, (k : Int)]) tr) := by
  have sa := hS.num a (by omega)
  have sb := hS.num b (by omega)
  have sc := hS.num c (by omega)
  have fa := hS.fro a
  have hgl := hS.lt
  have hga : w.heap.size ≠ g := by omega
  have a0 : (0 : Int) ≤ (a : Int) := by omega
  have a1 : (a : Int) < 8 := by omega
  have b0 : (0 : Int) ≤ (b : Int) := by omega
  have b1 : (b : Int) < 8 := by omega
  have c0 : (0 : Int) ≤ (c : Int) := by omega
  have c1 : (c : Int) < 8 := by omega
  have ga : decide ((7 : Int) < (a : Int)) = false := by simp; omega
  have gb : decide ((7 : Int) < (b : Int)) = false := by simp; omega
  have gc : decide ((7 : Int) < (c : Int)) = false := by simp; omega
  have k0 : (0 : Int) ≤ (k : Int) := by omega
  have k1 : (k : Int) < 16 := by omega
  obtain ⟨i0, hi0, hz0, hz1, hz2⟩ := info_parts infoI32
  go_enter Tryd.func14, Tryd.ntmps14
  go_wp2_with fail
  go_quiet (fail)
  go_wp2_with fail
  have hkp : Keep w ((w.alloc (.cells #[.int .u8 17, .int .u8 (a : Int), .int .u8 (b : Int), .int .u8 (c : Int), .int .i32 (k : Int)] 49)).drewN nq) (fun _ => False) := ((Keep.refl w _).alloc _).drewN nq
  have hB : Blk ((w.alloc (.cells #[.int .u8 17, .int .u8 (a : Int), .int .u8 (b : Int), .int .u8 (c : Int), .int .i32 (k : Int)] 49)).drewN nq) w.heap.size 49 #[.int .u8 17, .int .u8 (a : Int), .int .u8 (b : Int), .int .u8 (c : Int), .int .i32 (k : Int)] := (Blk.new w _ _).drewN nq
  have hSy := hS.keep hkp (fun h => h)
  have hsy := hSy.lt
  have hBl := hB.lt
  have say := hSy.num a (by omega)
  have fay := hSy.fro a
  clear sa sb sc fa
  have hOy := hO.keep hkp (fun _ _ h => h)
  have hown := hOy.own
  have hlow := hOy.low
  generalize (w.alloc (.cells #[.int .u8 17, .int .u8 (a : Int), .int .u8 (b : Int), .int .u8 (c : Int), .int .i32 (k : Int)] 49)).drewN nq = wy at *
  have hkb : w.heap.size ≤ wy.heap.size := hkp.size
  have c72 := hSy.out
  have f72 := hSy.fro 72
  have i4 := hB.cell 4
  simp at i4
  have hsz : wy.heap.size ≠ g := by omega
  have hgn : some g ≠ ov.ownBlock := fun h => hog h.symm
  go_region_law
    (refine step_append_lies _ (by rfl) _ _ _ (by rfl) base 21 i0 _ 1 4 Tryd.underlying40 hi0 hz0 hz1 hz2 rfl (by omega) ov os.length (i32Cells os) (by rfl) ((hown.alloc _).drew) ⟨wy.heap.size, 0, none⟩ 2 2 (i32Cells [f a, (k : Int)]) (by rfl) (by rfl) (World.news_of_block (cs := (i32Cells [f a, (k : Int)]).toArray) (t := 21) (fr := (0, 0)) (heap_alloc_new wy _)) (i32Cells_one _) (by omega) (by unfold maxLen; omega) (by omega) (by simp; omega) (wy.heap.size + 1) (by simp) ?_; intro gg cap2 w1 hown1 hgrow hat hlt; have k0 : w1.cell? ⟨g, 72, none⟩ = some ov := (hgrow.cell_far ⟨g, 72, none⟩ (by simp; omega) hgn).trans (by simp [World.cell?_alloc_some, c72]); have k1 : w1.frozen? ⟨g, 72, none⟩ = false := (hgrow.frozen_far ⟨g, 72, none⟩ (by simp; omega) hgn).trans (by simp [frozen?_alloc_cells, f72]); have HAT := Lib.hid hat; clear hat)
  all_goals go_wp2_with fail
  all_goals go_ret
  all_goals
    have hgg : gg ≠ g := by
      rintro rfl
      rcases HAT.out with h | h
      · exact hog h
      · omega
    have hK1 : Keep wy w1 (fun k => ov.ownBlock = some k) := (((Keep.refl wy _).alloc _).drew).grown hgrow (fun k hk _ => hk)
    have hK2 := (hkp.mono (S' := fun k => k = g ∨ ov.ownBlock = some k) (fun _ _ h => h.elim)).trans hK1 (fun k _ h => .inr h)
    have hK3 := hK2.setCell ⟨g, 72, none⟩ (fun _ => .inl rfl) (.slice (some ⟨gg, 0, none⟩) (os.length + 2) cap2)
    refine ⟨rfl, .slice (some ⟨gg, 0, none⟩) (os.length + 2) cap2, (hSy.keep hK1 (fun h => hog h)).setOut _, ⟨?_, by have := hK1.size; simp [World.setCell]; omega⟩, hK3, ?_⟩
    · rw [i32Cells_append, List.length_append]
      exact setRow_own hown1 ⟨g, 72, none⟩ _ (by simpa [Value.ownBlock] using hgg)
    · intro j hj
      simp only [Value.ownBlock, Option.some.injEq] at hj
      subst hj
      rcases HAT.out with h | h
      · exact .inl h
      · exact .inr (by omega)

set_option maxRecDepth 100000 in
set_option maxHeartbeats 1600000 in
theorem do_21 (w : World) (g : Nat) (f : Nat → Int) (ov : Value) (tr : Int) (a b c : Nat) (base : Nat) (os : List Int) (k : Nat) (ha : a < 8) (hb : b < 8) (hc : c < 8) (hk16 : k < 16) (hO : OutR w base ov os) (hog : ov.ownBlock ≠ some g) (hol : os.length < 1000000000) (hS : StF w g f ov tr) :
    Calls Tryd.prog 14 #[.pointer (some ⟨g, 0, none⟩), .agg #[.int .u8 21, .int .u8 (a : Int), .int .u8 (b : Int), .int .u8 (c : Int), .int .i32 (k : Int)]] w (DoesO w g base ov f (os ++ [f a, (k : Int)]) tr) := by
  have sa := hS.num a (by omega)
  have sb := hS.num b (by omega)
  have sc := hS.num c (by omega)
  have fa := hS.fro a
  have hgl := hS.lt
  have hga : w.heap.size ≠ g := by omega
  have a0 : (0 : Int) ≤ (a : Int) := by omega
  have a1 : (a : Int) < 8 := by omega
  have b0 : (0 : Int) ≤ (b : Int) := by omega
  have b1 : (b : Int) < 8 := by omega
  have c0 : (0 : Int) ≤ (c : Int) := by omega
  have c1 : (c : Int) < 8 := by omega
  have ga : decide ((7 : Int) < (a : Int)) = false := by simp; omega
  have gb : decide ((7 : Int) < (b : Int)) = false := by simp; omega
  have gc : decide ((7 : Int) < (c : Int)) = false := by simp; omega
  have k0 : (0 : Int) ≤ (k : Int) := by omega
  have k1 : (k : Int) < 16 := by omega
  obtain ⟨i0, hi0, hz0, hz1, hz2⟩ := info_parts infoI32
  go_enter Tryd.func14, Tryd.ntmps14
  go_wp2_with fail
  go_quiet (fail)
  go_wp2_with fail
  have hkp : Keep w ((w.alloc (.cells #[.int .u8 21, .int .u8 (a : Int), .int .u8 (b : Int), .int .u8 (c : Int), .int .i32 (k : Int)] 49)).drewN nq) (fun _ => False) := ((Keep.refl w _).alloc _).drewN nq
  have hB : Blk ((w.alloc (.cells #[.int .u8 21, .int .u8 (a : Int), .int .u8 (b : Int), .int .u8 (c : Int), .int .i32 (k : Int)] 49)).drewN nq) w.heap.size 49 #[.int .u8 21, .int .u8 (a : Int), .int .u8 (b : Int), .int .u8 (c : Int), .int .i32 (k : Int)] := (Blk.new w _ _).drewN nq
  have hSy := hS.keep hkp (fun h => h)
  have hsy := hSy.lt
  have hBl := hB.lt
  have say := hSy.num a (by omega)
  have fay := hSy.fro a
  clear sa sb sc fa
  have hOy := hO.keep hkp (fun _ _ h => h)
  have hown := hOy.own
  have hlow := hOy.low
  generalize (w.alloc (.cells #[.int .u8 21, .int .u8 (a : Int), .int .u8 (b : Int), .int .u8 (c : Int), .int .i32 (k : Int)] 49)).drewN nq = wy at *
  have hkb : w.heap.size ≤ wy.heap.size := hkp.size
  have c72 := hSy.out
  have f72 := hSy.fro 72
  have i4 := hB.cell 4
  simp at i4
  have hsz : wy.heap.size ≠ g := by omega
  have hgn : some g ≠ ov.ownBlock := fun h => hog h.symm
  go_region_law
    (refine step_append_lies _ (by rfl) _ _ _ (by rfl) base 21 i0 _ 1 4 Tryd.underlying40 hi0 hz0 hz1 hz2 rfl (by omega) ov os.length (i32Cells os) (by rfl) ((hown.alloc _).drew) ⟨wy.heap.size, 0, none⟩ 2 2 (i32Cells [f a, (k : Int)]) (by rfl) (by rfl) (World.news_of_block (cs := (i32Cells [f a, (k : Int)]).toArray) (t := 21) (fr := (0, 0)) (heap_alloc_new wy _)) (i32Cells_one _) (by omega) (by unfold maxLen; omega) (by omega) (by simp; omega) (wy.heap.size + 1) (by simp) ?_; intro gg cap2 w1 hown1 hgrow hat hlt; have k0 : w1.cell? ⟨g, 72, none⟩ = some ov := (hgrow.cell_far ⟨g, 72, none⟩ (by simp; omega) hgn).trans (by simp [World.cell?_alloc_some, c72]); have k1 : w1.frozen? ⟨g, 72, none⟩ = false := (hgrow.frozen_far ⟨g, 72, none⟩ (by simp; omega) hgn).trans (by simp [frozen?_alloc_cells, f72]); have HAT := Lib.hid hat; clear hat)
  all_goals go_wp2_with fail
  all_goals go_ret
  all_goals
    have hgg : gg ≠ g := by
      rintro rfl
      rcases HAT.out with h | h
      · exact hog h
      · omega
    have hK1 : Keep wy w1 (fun k => ov.ownBlock = some k) := (((Keep.refl wy _).alloc _).drew).grown hgrow (fun k hk _ => hk)
    have hK2 := (hkp.mono (S' := fun k => k = g ∨ ov.ownBlock = some k) (fun _ _ h => h.elim)).trans hK1 (fun k _ h => .inr h)
    have hK3 := hK2.setCell ⟨g, 72, none⟩ (fun _ => .inl rfl) (.slice (some ⟨gg, 0, none⟩) (os.length + 2) cap2)
    refine ⟨rfl, .slice (some ⟨gg, 0, none⟩) (os.length + 2) cap2, (hSy.keep hK1 (fun h => hog h)).setOut _, ⟨?_, by have := hK1.size; simp [World.setCell]; omega⟩, hK3, ?_⟩
    · rw [i32Cells_append, List.length_append]
      exact setRow_own hown1 ⟨g, 72, none⟩ _ (by simpa [Value.ownBlock] using hgg)
    · intro j hj
      simp only [Value.ownBlock, Option.some.injEq] at hj
      subst hj
      rcases HAT.out with h | h
      · exact .inl h
      · exact .inr (by omega)
end Go.Proofs.YthkiajbgdamjgaaDoor

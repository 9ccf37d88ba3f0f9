/- The law's do: what an instruction of the machine does to the state. Conditions: registers below 8, numbers in range. -/
import Derived.Test.YthkiajbgdamjgaaDoorDoB
namespace Go.Proofs.YthkiajbgdamjgaaDoor
open Go.RowKit
set_option linter.unusedVariables false
attribute [local irreducible] Blk

/-- What a call of do leaves. -/
def Does (w : World) (g : Nat) (f : Nat → Int) (ov : Value) (tr : Int) (e : Ending) (w' : World) : Prop :=
  e = .returned (.bool true) ∧ StF w' g f ov tr ∧ Keep w w' (fun k => k = g)
theorem keep_set {w w' : World} (hk : Keep w w' (fun _ => False)) (g a : Nat) (u : Value) : Keep w (w'.setCell ⟨g, a, none⟩ u) (fun k => k = g) := (hk.mono (S' := fun k => k = g) (fun _ _ h => h.elim)).setCell ⟨g, a, none⟩ (fun _ => rfl) u
theorem and15i (n : Nat) (h : n < 16) : bits .and .i32 (n : Int) 15 = (n : Int) := by
  have hall : ∀ m : Fin 16, bits .and .i32 ((m.val : Nat) : Int) 15 = ((m.val : Nat) : Int) := by decide +kernel
  exact hall ⟨n, h⟩
theorem and7i (n : Nat) (h : n < 16) : bits .and .i32 (n : Int) 7 = ((n % 8 : Nat) : Int) := by
  have hall : ∀ m : Fin 16, bits .and .i32 ((m.val : Nat) : Int) 7 = ((m.val % 8 : Nat) : Int) := by decide +kernel
  exact hall ⟨n, h⟩

set_option maxRecDepth 100000 in
set_option maxHeartbeats 1600000 in
theorem do_2 (w : World) (g : Nat) (f : Nat → Int) (ov : Value) (tr : Int) (a b c : Nat) (n : Int) (ha : a < 8) (hb : b < 8) (hc : c < 8) (n0 : -2147483648 ≤ n) (n1 : n ≤ 2147483647) (hS : StF w g f ov tr) :
    Calls Tryd.prog 14 #[.pointer (some ⟨g, 0, none⟩), .agg #[.int .u8 2, .int .u8 (a : Int), .int .u8 (b : Int), .int .u8 (c : Int), .int .i32 n]] w (Does w g (upd f a (n)) ov tr) := by
  have sa := hS.num a (by omega)
  have sb := hS.num b (by omega)
  have sc := hS.num c (by omega)
  have fa := hS.fro a
  have hgl := hS.lt
  have hga : w.heap.size ≠ g := by omega
  have a0 : (0 : Int) ≤ (a : Int) := by omega
  have a1 : (a : Int) < 8 := by omega
  have b0 : (0 : Int) ≤ (b : Int) := by omega
  have b1 : (b : Int) < 8 := by omega
  have c0 : (0 : Int) ≤ (c : Int) := by omega
  have c1 : (c : Int) < 8 := by omega
  have ga : decide ((7 : Int) < (a : Int)) = false := by simp; omega
  have gb : decide ((7 : Int) < (b : Int)) = false := by simp; omega
  have gc : decide ((7 : Int) < (c : Int)) = false := by simp; omega
  go_enter Tryd.func14, Tryd.ntmps14
  go_wp2_with fail
  go_quiet (fail)
  go_wp2_with fail
  go_ret
  have hk : Keep w ((w.alloc (.cells #[.int .u8 2, .int .u8 (a : Int), .int .u8 (b : Int), .int .u8 (c : Int), .int .i32 n] 49)).drewN nq) (fun _ => False) := ((Keep.refl w _).alloc _).drewN nq
  have hw := (⟨n0, n1⟩ : -2147483648 ≤ n ∧ n ≤ 2147483647)
  exact ⟨rfl, (hS.keep hk (fun h => h)).set (by omega) _ hw.1 hw.2, keep_set hk _ _ _⟩

set_option maxRecDepth 100000 in
set_option maxHeartbeats 1600000 in
theorem do_3 (w : World) (g : Nat) (f : Nat → Int) (ov : Value) (tr : Int) (a b c : Nat) (n : Int) (ha : a < 8) (hb : b < 8) (hc : c < 8) (n0 : -2147483648 ≤ n) (n1 : n ≤ 2147483647) (hS : StF w g f ov tr) :
    Calls Tryd.prog 14 #[.pointer (some ⟨g, 0, none⟩), .agg #[.int .u8 3, .int .u8 (a : Int), .int .u8 (b : Int), .int .u8 (c : Int), .int .i32 n]] w (Does w g (upd f a (f b)) ov tr) := by
  have sa := hS.num a (by omega)
  have sb := hS.num b (by omega)
  have sc := hS.num c (by omega)
  have fa := hS.fro a
  have hgl := hS.lt
  have hga : w.heap.size ≠ g := by omega
  have a0 : (0 : Int) ≤ (a : Int) := by omega
  have a1 : (a : Int) < 8 := by omega
  have b0 : (0 : Int) ≤ (b : Int) := by omega
  have b1 : (b : Int) < 8 := by omega
  have c0 : (0 : Int) ≤ (c : Int) := by omega
  have c1 : (c : Int) < 8 := by omega
  have ga : decide ((7 : Int) < (a : Int)) = false := by simp; omega
  have gb : decide ((7 : Int) < (b : Int)) = false := by simp; omega
  have gc : decide ((7 : Int) < (c : Int)) = false := by simp; omega
  go_enter Tryd.func14, Tryd.ntmps14
  go_wp2_with fail
  go_quiet (fail)
  go_wp2_with fail
  go_ret
  have hk : Keep w ((w.alloc (.cells #[.int .u8 3, .int .u8 (a : Int), .int .u8 (b : Int), .int .u8 (c : Int), .int .i32 n] 49)).drewN nq) (fun _ => False) := ((Keep.refl w _).alloc _).drewN nq
  have hw := hS.bd b (by omega)
  exact ⟨rfl, (hS.keep hk (fun h => h)).set (by omega) _ hw.1 hw.2, keep_set hk _ _ _⟩

set_option maxRecDepth 100000 in
set_option maxHeartbeats 1600000 in
theorem do_10 (w : World) (g : Nat) (f : Nat → Int) (ov : Value) (tr : Int) (a b c : Nat) (k : Nat) (ha : a < 8) (hb : b < 8) (hc : c < 8) (hk16 : k < 16) (hS : StF w g f ov tr) :
    Calls Tryd.prog 14 #[.pointer (some ⟨g, 0, none⟩), .agg #[.int .u8 10, .int .u8 (a : Int), .int .u8 (b : Int), .int .u8 (c : Int), .int .i32 (k : Int)]] w (Does w g (upd f a (1000 + (k : Int) * 7)) ov tr) := by
  have sa := hS.num a (by omega)
  have sb := hS.num b (by omega)
  have sc := hS.num c (by omega)
  have fa := hS.fro a
  have hgl := hS.lt
  have hga : w.heap.size ≠ g := by omega
  have a0 : (0 : Int) ≤ (a : Int) := by omega
  have a1 : (a : Int) < 8 := by omega
  have b0 : (0 : Int) ≤ (b : Int) := by omega
  have b1 : (b : Int) < 8 := by omega
  have c0 : (0 : Int) ≤ (c : Int) := by omega
  have c1 : (c : Int) < 8 := by omega
  have ga : decide ((7 : Int) < (a : Int)) = false := by simp; omega
  have gb : decide ((7 : Int) < (b : Int)) = false := by simp; omega
  have gc : decide ((7 : Int) < (c : Int)) = false := by simp; omega
  have k0 : (0 : Int) ≤ (k : Int) := by omega
  have k1 : (k : Int) < 16 := by omega
  go_enter Tryd.func14, Tryd.ntmps14
  go_wp2_with fail
  go_quiet (fail)
  go_wp2_with fail
  go_ret
  have hk : Keep w ((w.alloc (.cells #[.int .u8 10, .int .u8 (a : Int), .int .u8 (b : Int), .int .u8 (c : Int), .int .i32 (k : Int)] 49)).drewN nq) (fun _ => False) := ((Keep.refl w _).alloc _).drewN nq
  have hw := (⟨by omega, by omega⟩ : -2147483648 ≤ 1000 + (k : Int) * 7 ∧ 1000 + (k : Int) * 7 ≤ 2147483647)
  exact ⟨rfl, (hS.keep hk (fun h => h)).set (by omega) _ hw.1 hw.2, keep_set hk _ _ _⟩

set_option maxRecDepth 100000 in
set_option maxHeartbeats 1600000 in
theorem do_19 (w : World) (g : Nat) (f : Nat → Int) (ov : Value) (tr : Int) (a b c : Nat) (k : Nat) (ha : a < 8) (hb : b < 8) (hc : c < 8) (hk16 : k < 16) (hS : StF w g f ov tr) :
    Calls Tryd.prog 14 #[.pointer (some ⟨g, 0, none⟩), .agg #[.int .u8 19, .int .u8 (a : Int), .int .u8 (b : Int), .int .u8 (c : Int), .int .i32 (k : Int)]] w (Does w g (upd f a (1000 + (k : Int) * 7)) ov tr) := by
  have sa := hS.num a (by omega)
  have sb := hS.num b (by omega)
  have sc := hS.num c (by omega)
  have fa := hS.fro a
  have hgl := hS.lt
  have hga : w.heap.size ≠ g := by omega
  have a0 : (0 : Int) ≤ (a : Int) := by omega
  have a1 : (a : Int) < 8 := by omega
  have b0 : (0 : Int) ≤ (b : Int) := by omega
  have b1 : (b : Int) < 8 := by omega
  have c0 : (0 : Int) ≤ (c : Int) := by omega
  have c1 : (c : Int) < 8 := by omega
  have ga : decide ((7 : Int) < (a : Int)) = false := by simp; omega
  have gb : decide ((7 : Int) < (b : Int)) = false := by simp; omega
  have gc : decide ((7 : Int) < (c : Int)) = false := by simp; omega
  have k0 : (0 : Int) ≤ (k : Int) := by omega
  have k1 : (k : Int) < 16 := by omega
  go_enter Tryd.func14, Tryd.ntmps14
  go_wp2_with fail
  go_quiet (fail)
  go_wp2_with fail
  go_ret
  have hk : Keep w ((w.alloc (.cells #[.int .u8 19, .int .u8 (a : Int), .int .u8 (b : Int), .int .u8 (c : Int), .int .i32 (k : Int)] 49)).drewN nq) (fun _ => False) := ((Keep.refl w _).alloc _).drewN nq
  have hw := (⟨by omega, by omega⟩ : -2147483648 ≤ 1000 + (k : Int) * 7 ∧ 1000 + (k : Int) * 7 ≤ 2147483647)
  exact ⟨rfl, (hS.keep hk (fun h => h)).set (by omega) _ hw.1 hw.2, keep_set hk _ _ _⟩

set_option maxRecDepth 100000 in
set_option maxHeartbeats 1600000 in
theorem do_4y (w : World) (g : Nat) (f : Nat → Int) (ov : Value) (tr : Int) (a b c : Nat) (n : Int) (ha : a < 8) (hb : b < 8) (hc : c < 8) (n0 : 36 ≤ n) (n1 : n < 100) (hbb : binB (n / 4) (f c) = true) (hS : StF w g f ov tr) :
    Calls Tryd.prog 14 #[.pointer (some ⟨g, 0, none⟩), .agg #[.int .u8 4, .int .u8 (a : Int), .int .u8 (b : Int), .int .u8 (c : Int), .int .i32 n]] w (Does w g (upd f a (binV (n / 4) (n % 4) (f b) (f c))) ov tr) := by
  have sa := hS.num a (by omega)
  have sb := hS.num b (by omega)
  have sc := hS.num c (by omega)
  have fa := hS.fro a
  have hgl := hS.lt
  have hga : w.heap.size ≠ g := by omega
  have a0 : (0 : Int) ≤ (a : Int) := by omega
  have a1 : (a : Int) < 8 := by omega
  have b0 : (0 : Int) ≤ (b : Int) := by omega
  have b1 : (b : Int) < 8 := by omega
  have c0 : (0 : Int) ≤ (c : Int) := by omega
  have c1 : (c : Int) < 8 := by omega
  have ga : decide ((7 : Int) < (a : Int)) = false := by simp; omega
  have gb : decide ((7 : Int) < (b : Int)) = false := by simp; omega
  have gc : decide ((7 : Int) < (c : Int)) = false := by simp; omega
  have bdb := hS.bd b (by omega)
  have bb0 := bdb.1
  have bb1 := bdb.2
  have bdc := hS.bd c (by omega)
  have cc0 := bdc.1
  have cc1 := bdc.2
  clear bdb bdc
  have hbin := fun W => bin_any W (n / 4) (n % 4) (f b) (f c) bb0 bb1 cc0 cc1 (by omega) (by omega)
  rw [hbb] at hbin
  have HBIN := Lib.hid hbin
  clear hbin hbb
  have nn0 : 0 ≤ n := by omega
  go_enter Tryd.func14, Tryd.ntmps14
  go_wp2_with fail
  go_quiet (fail)
  go_wp2_with fail
  refine (HBIN.out _).mono ?_
  rintro e w1 ⟨rfl, hb1⟩
  have hk0 : Keep w ((w.alloc (.cells #[.int .u8 4, .int .u8 (a : Int), .int .u8 (b : Int), .int .u8 (c : Int), .int .i32 n] 49)).drewN nq) (fun _ => False) := ((Keep.refl w _).alloc _).drewN nq
  have hk : Keep w w1 (fun _ => False) := hk0.trans (Keep.of_below hb1) (fun k hk hc => by simp at hc; omega)
  have hSy := hS.keep hk (fun h => h)
  have say := hSy.num a (by omega)
  have fay := hSy.fro a
  have c73 := hSy.trap
  have f73 := hSy.fro 73
  have hsy := hSy.lt
  clear sa sb sc fa hb1
  go_wp2_with fail
  go_ret
  have hw := binV_bd (n / 4) (n % 4) (f b) (f c)
  exact ⟨rfl, hSy.set (by omega) _ hw.1 hw.2, keep_set hk _ _ _⟩

set_option maxRecDepth 100000 in
set_option maxHeartbeats 1600000 in
theorem do_4n (w : World) (g : Nat) (f : Nat → Int) (ov : Value) (tr : Int) (a b c : Nat) (n : Int) (ha : a < 8) (hb : b < 8) (hc : c < 8) (n0 : 36 ≤ n) (n1 : n < 100) (hbb : binB (n / 4) (f c) = false) (hS : StF w g f ov tr) :
    Calls Tryd.prog 14 #[.pointer (some ⟨g, 0, none⟩), .agg #[.int .u8 4, .int .u8 (a : Int), .int .u8 (b : Int), .int .u8 (c : Int), .int .i32 n]] w (Does w g (f) ov 2) := by
  have sa := hS.num a (by omega)
  have sb := hS.num b (by omega)
  have sc := hS.num c (by omega)
  have fa := hS.fro a
  have hgl := hS.lt
  have hga : w.heap.size ≠ g := by omega
  have a0 : (0 : Int) ≤ (a : Int) := by omega
  have a1 : (a : Int) < 8 := by omega
  have b0 : (0 : Int) ≤ (b : Int) := by omega
  have b1 : (b : Int) < 8 := by omega
  have c0 : (0 : Int) ≤ (c : Int) := by omega
  have c1 : (c : Int) < 8 := by omega
  have ga : decide ((7 : Int) < (a : Int)) = false := by simp; omega
  have gb : decide ((7 : Int) < (b : Int)) = false := by simp; omega
  have gc : decide ((7 : Int) < (c : Int)) = false := by simp; omega
  have bdb := hS.bd b (by omega)
  have bb0 := bdb.1
  have bb1 := bdb.2
  have bdc := hS.bd c (by omega)
  have cc0 := bdc.1
  have cc1 := bdc.2
  clear bdb bdc
  have hbin := fun W => bin_any W (n / 4) (n % 4) (f b) (f c) bb0 bb1 cc0 cc1 (by omega) (by omega)
  rw [hbb] at hbin
  have HBIN := Lib.hid hbin
  clear hbin hbb
  have nn0 : 0 ≤ n := by omega
  go_enter Tryd.func14, Tryd.ntmps14
  go_wp2_with fail
  go_quiet (fail)
  go_wp2_with fail
  refine (HBIN.out _).mono ?_
  rintro e w1 ⟨rfl, hb1⟩
  have hk0 : Keep w ((w.alloc (.cells #[.int .u8 4, .int .u8 (a : Int), .int .u8 (b : Int), .int .u8 (c : Int), .int .i32 n] 49)).drewN nq) (fun _ => False) := ((Keep.refl w _).alloc _).drewN nq
  have hk : Keep w w1 (fun _ => False) := hk0.trans (Keep.of_below hb1) (fun k hk hc => by simp at hc; omega)
  have hSy := hS.keep hk (fun h => h)
  have say := hSy.num a (by omega)
  have fay := hSy.fro a
  have c73 := hSy.trap
  have f73 := hSy.fro 73
  have hsy := hSy.lt
  clear sa sb sc fa hb1
  go_wp2_with fail
  go_ret
  exact ⟨rfl, hSy.setTrap 2, keep_set hk _ _ _⟩

set_option maxRecDepth 100000 in
set_option maxHeartbeats 1600000 in
theorem do_5 (w : World) (g : Nat) (f : Nat → Int) (ov : Value) (tr : Int) (a b c : Nat) (n : Int) (ha : a < 8) (hb : b < 8) (hc : c < 8) (n0 : 0 ≤ n) (n1 : n < 100) (hS : StF w g f ov tr) :
    Calls Tryd.prog 14 #[.pointer (some ⟨g, 0, none⟩), .agg #[.int .u8 5, .int .u8 (a : Int), .int .u8 (b : Int), .int .u8 (c : Int), .int .i32 n]] w (Does w g (upd f a (unF (n / 4) (n % 4) (f b))) ov tr) := by
  have sa := hS.num a (by omega)
  have sb := hS.num b (by omega)
  have sc := hS.num c (by omega)
  have fa := hS.fro a
  have hgl := hS.lt
  have hga : w.heap.size ≠ g := by omega
  have a0 : (0 : Int) ≤ (a : Int) := by omega
  have a1 : (a : Int) < 8 := by omega
  have b0 : (0 : Int) ≤ (b : Int) := by omega
  have b1 : (b : Int) < 8 := by omega
  have c0 : (0 : Int) ≤ (c : Int) := by omega
  have c1 : (c : Int) < 8 := by omega
  have ga : decide ((7 : Int) < (a : Int)) = false := by simp; omega
  have gb : decide ((7 : Int) < (b : Int)) = false := by simp; omega
  have gc : decide ((7 : Int) < (c : Int)) = false := by simp; omega
  have bdb := hS.bd b (by omega)
  have bb0 := bdb.1
  have bb1 := bdb.2
  have bdc := hS.bd c (by omega)
  have cc0 := bdc.1
  have cc1 := bdc.2
  clear bdb bdc
  go_enter Tryd.func14, Tryd.ntmps14
  go_wp2_with fail
  go_quiet (fail)
  go_wp2_with fail
  refine (un_any _ (n / 4) (n % 4) (f b) bb0 bb1).mono ?_
  rintro e w1 ⟨rfl, rfl⟩
  have hkp : Keep w ((w.alloc (.cells #[.int .u8 5, .int .u8 (a : Int), .int .u8 (b : Int), .int .u8 (c : Int), .int .i32 n] 49)).drewN nq) (fun _ => False) := ((Keep.refl w _).alloc _).drewN nq
  have hB : Blk ((w.alloc (.cells #[.int .u8 5, .int .u8 (a : Int), .int .u8 (b : Int), .int .u8 (c : Int), .int .i32 n] 49)).drewN nq) w.heap.size 49 #[.int .u8 5, .int .u8 (a : Int), .int .u8 (b : Int), .int .u8 (c : Int), .int .i32 n] := (Blk.new w _ _).drewN nq
  have hSy := hS.keep hkp (fun h => h)
  have hsy := hSy.lt
  have hBl := hB.lt
  have say := hSy.num a (by omega)
  have fay := hSy.fro a
  clear sa sb sc fa
  generalize (w.alloc (.cells #[.int .u8 5, .int .u8 (a : Int), .int .u8 (b : Int), .int .u8 (c : Int), .int .i32 n] 49)).drewN nq = wy at *
  go_wp2_with fail
  go_ret
  have hw := unF_bd (n / 4) (n % 4) (f b) bb0 bb1
  exact ⟨rfl, hSy.set (by omega) _ hw.1 hw.2, keep_set hkp _ _ _⟩

set_option maxRecDepth 100000 in
set_option maxHeartbeats 1600000 in
theorem do_6 (w : World) (g : Nat) (f : Nat → Int) (ov : Value) (tr : Int) (a b c : Nat) (k : Nat) (ha : a < 8) (hb : b < 8) (hc : c < 8) (hk16 : k < 16) (hS : StF w g f ov tr) :
    Calls Tryd.prog 14 #[.pointer (some ⟨g, 0, none⟩), .agg #[.int .u8 6, .int .u8 (a : Int), .int .u8 (b : Int), .int .u8 (c : Int), .int .i32 (k : Int)]] w (Does w g (upd f a (f (48 + k))) ov tr) := by
  have sa := hS.num a (by omega)
  have sb := hS.num b (by omega)
  have sc := hS.num c (by omega)
  have fa := hS.fro a
  have hgl := hS.lt
  have hga : w.heap.size ≠ g := by omega
  have a0 : (0 : Int) ≤ (a : Int) := by omega
  have a1 : (a : Int) < 8 := by omega
  have b0 : (0 : Int) ≤ (b : Int) := by omega
  have b1 : (b : Int) < 8 := by omega
  have c0 : (0 : Int) ≤ (c : Int) := by omega
  have c1 : (c : Int) < 8 := by omega
  have ga : decide ((7 : Int) < (a : Int)) = false := by simp; omega
  have gb : decide ((7 : Int) < (b : Int)) = false := by simp; omega
  have gc : decide ((7 : Int) < (c : Int)) = false := by simp; omega
  have k0 : (0 : Int) ≤ (k : Int) := by omega
  have k1 : (k : Int) < 16 := by omega
  have hl := and15i k hk16
  go_enter Tryd.func14, Tryd.ntmps14
  go_wp2_with fail
  go_quiet (fail)
  go_wp2_with fail
  have hkp : Keep w ((w.alloc (.cells #[.int .u8 6, .int .u8 (a : Int), .int .u8 (b : Int), .int .u8 (c : Int), .int .i32 (k : Int)] 49)).drewN nq) (fun _ => False) := ((Keep.refl w _).alloc _).drewN nq
  have hB : Blk ((w.alloc (.cells #[.int .u8 6, .int .u8 (a : Int), .int .u8 (b : Int), .int .u8 (c : Int), .int .i32 (k : Int)] 49)).drewN nq) w.heap.size 49 #[.int .u8 6, .int .u8 (a : Int), .int .u8 (b : Int), .int .u8 (c : Int), .int .i32 (k : Int)] := (Blk.new w _ _).drewN nq
  have hSy := hS.keep hkp (fun h => h)
  have hsy := hSy.lt
  have hBl := hB.lt
  have say := hSy.num a (by omega)
  have fay := hSy.fro a
  clear sa sb sc fa
  have rj := hSy.num (48 + k) (by omega)
  have sj := hSy.num (a) (by omega)
  have fj := hSy.fro (a)
  generalize (w.alloc (.cells #[.int .u8 6, .int .u8 (a : Int), .int .u8 (b : Int), .int .u8 (c : Int), .int .i32 (k : Int)] 49)).drewN nq = wy at *
  go_region_held3 (fun w' => w'.cell? ⟨w.heap.size, 4, none⟩ = some (.int .i32 (k : Int)) ∧ w'.cell? ⟨g, 48 + k, none⟩ = some (.int .i32 (f (48 + k))))
    (first
      | (refine ⟨cell_of_blk (Blk.drew hB) (by rfl), rj⟩)
      | (refine ⟨cell_of_blk (Blk.drew (Blk.far hB hga _)) (by rfl), (cell_other _ (by omega)).trans rj⟩)
      | (refine ⟨cell_of_blk (Blk.far (Blk.drew hB) hga _) (by rfl), (cell_other _ (by omega)).trans rj⟩))
    (fail)
  all_goals
    go_wp2_with fail
    go_ret
    have hw := hS.bd (48 + k) (by omega)
    exact ⟨rfl, (hSy.set (k := a) (by omega) _ hw.1 hw.2).keep ((Keep.refl _ (fun _ => False)).drew) (fun h => h), (keep_set hkp g (a) (.int .i32 (f (48 + k)))).drew⟩

set_option maxRecDepth 100000 in
set_option maxHeartbeats 1600000 in
theorem do_7 (w : World) (g : Nat) (f : Nat → Int) (ov : Value) (tr : Int) (a b c : Nat) (k : Nat) (ha : a < 8) (hb : b < 8) (hc : c < 8) (hk16 : k < 16) (hS : StF w g f ov tr) :
    Calls Tryd.prog 14 #[.pointer (some ⟨g, 0, none⟩), .agg #[.int .u8 7, .int .u8 (a : Int), .int .u8 (b : Int), .int .u8 (c : Int), .int .i32 (k : Int)]] w (Does w g (upd f (48 + k) (f a)) ov tr) := by
  have sa := hS.num a (by omega)
  have sb := hS.num b (by omega)
  have sc := hS.num c (by omega)
  have fa := hS.fro a
  have hgl := hS.lt
  have hga : w.heap.size ≠ g := by omega
  have a0 : (0 : Int) ≤ (a : Int) := by omega
  have a1 : (a : Int) < 8 := by omega
  have b0 : (0 : Int) ≤ (b : Int) := by omega
  have b1 : (b : Int) < 8 := by omega
  have c0 : (0 : Int) ≤ (c : Int) := by omega
  have c1 : (c : Int) < 8 := by omega
  have ga : decide ((7 : Int) < (a : Int)) = false := by simp; omega
  have gb : decide ((7 : Int) < (b : Int)) = false := by simp; omega
  have gc : decide ((7 : Int) < (c : Int)) = false := by simp; omega
  have k0 : (0 : Int) ≤ (k : Int) := by omega
  have k1 : (k : Int) < 16 := by omega
  have hl := and15i k hk16
  go_enter Tryd.func14, Tryd.ntmps14
  go_wp2_with fail
  go_quiet (fail)
  go_wp2_with fail
  have hkp : Keep w ((w.alloc (.cells #[.int .u8 7, .int .u8 (a : Int), .int .u8 (b : Int), .int .u8 (c : Int), .int .i32 (k : Int)] 49)).drewN nq) (fun _ => False) := ((Keep.refl w _).alloc _).drewN nq
  have hB : Blk ((w.alloc (.cells #[.int .u8 7, .int .u8 (a : Int), .int .u8 (b : Int), .int .u8 (c : Int), .int .i32 (k : Int)] 49)).drewN nq) w.heap.size 49 #[.int .u8 7, .int .u8 (a : Int), .int .u8 (b : Int), .int .u8 (c : Int), .int .i32 (k : Int)] := (Blk.new w _ _).drewN nq
  have hSy := hS.keep hkp (fun h => h)
  have hsy := hSy.lt
  have hBl := hB.lt
  have say := hSy.num a (by omega)
  have fay := hSy.fro a
  clear sa sb sc fa
  have rj := hSy.num (a) (by omega)
  have sj := hSy.num (48 + k) (by omega)
  have fj := hSy.fro (48 + k)
  generalize (w.alloc (.cells #[.int .u8 7, .int .u8 (a : Int), .int .u8 (b : Int), .int .u8 (c : Int), .int .i32 (k : Int)] 49)).drewN nq = wy at *
  go_region_held3 (fun w' => w'.cell? ⟨w.heap.size, 4, none⟩ = some (.int .i32 (k : Int)) ∧ w'.cell? ⟨g, a, none⟩ = some (.int .i32 (f a)))
    (first
      | (refine ⟨cell_of_blk (Blk.drew hB) (by rfl), rj⟩)
      | (refine ⟨cell_of_blk (Blk.drew (Blk.far hB hga _)) (by rfl), (cell_other _ (by omega)).trans rj⟩)
      | (refine ⟨cell_of_blk (Blk.far (Blk.drew hB) hga _) (by rfl), (cell_other _ (by omega)).trans rj⟩))
    (fail)
  all_goals
    go_wp2_with fail
    go_ret
    have hw := hS.bd (a) (by omega)
    exact ⟨rfl, (hSy.set (k := 48 + k) (by omega) _ hw.1 hw.2).keep ((Keep.refl _ (fun _ => False)).drew) (fun h => h), (keep_set hkp g (48 + k) (.int .i32 (f a))).drew⟩

set_option maxRecDepth 100000 in
set_option maxHeartbeats 1600000 in
theorem do_12 (w : World) (g : Nat) (f : Nat → Int) (ov : Value) (tr : Int) (a b c : Nat) (k : Nat) (ha : a < 8) (hb : b < 8) (hc : c < 8) (hk16 : k < 40) (hS : StF w g f ov tr) :
    Calls Tryd.prog 14 #[.pointer (some ⟨g, 0, none⟩), .agg #[.int .u8 12, .int .u8 (a : Int), .int .u8 (b : Int), .int .u8 (c : Int), .int .i32 (k : Int)]] w (Does w g (upd f a (f (8 + k))) ov tr) := by
  have sa := hS.num a (by omega)
  have sb := hS.num b (by omega)
  have sc := hS.num c (by omega)
  have fa := hS.fro a
  have hgl := hS.lt
  have hga : w.heap.size ≠ g := by omega
  have a0 : (0 : Int) ≤ (a : Int) := by omega
  have a1 : (a : Int) < 8 := by omega
  have b0 : (0 : Int) ≤ (b : Int) := by omega
  have b1 : (b : Int) < 8 := by omega
  have c0 : (0 : Int) ≤ (c : Int) := by omega
  have c1 : (c : Int) < 8 := by omega
  have ga : decide ((7 : Int) < (a : Int)) = false := by simp; omega
  have gb : decide ((7 : Int) < (b : Int)) = false := by simp; omega
  have gc : decide ((7 : Int) < (c : Int)) = false := by simp; omega
  have k0 : (0 : Int) ≤ (k : Int) := by omega
  have k1 : (k : Int) < 40 := by omega
  have gk : decide ((k : Int) < 0) = false := by simp
  have gk2 : decide ((40 : Int) ≤ (k : Int)) = false := by simp; omega
  go_enter Tryd.func14, Tryd.ntmps14
  go_wp2_with fail
  go_quiet (fail)
  go_wp2_with fail
  have hkp : Keep w ((w.alloc (.cells #[.int .u8 12, .int .u8 (a : Int), .int .u8 (b : Int), .int .u8 (c : Int), .int .i32 (k : Int)] 49)).drewN nq) (fun _ => False) := ((Keep.refl w _).alloc _).drewN nq
  have hB : Blk ((w.alloc (.cells #[.int .u8 12, .int .u8 (a : Int), .int .u8 (b : Int), .int .u8 (c : Int), .int .i32 (k : Int)] 49)).drewN nq) w.heap.size 49 #[.int .u8 12, .int .u8 (a : Int), .int .u8 (b : Int), .int .u8 (c : Int), .int .i32 (k : Int)] := (Blk.new w _ _).drewN nq
  have hSy := hS.keep hkp (fun h => h)
  have hsy := hSy.lt
  have hBl := hB.lt
  have say := hSy.num a (by omega)
  have fay := hSy.fro a
  clear sa sb sc fa
  have rj := hSy.num (8 + k) (by omega)
  have sj := hSy.num (a) (by omega)
  have fj := hSy.fro (a)
  generalize (w.alloc (.cells #[.int .u8 12, .int .u8 (a : Int), .int .u8 (b : Int), .int .u8 (c : Int), .int .i32 (k : Int)] 49)).drewN nq = wy at *
  go_region_held3 (fun w' => w'.cell? ⟨w.heap.size, 4, none⟩ = some (.int .i32 (k : Int)) ∧ w'.cell? ⟨g, 8 + k, none⟩ = some (.int .i32 (f (8 + k))))
    (first
      | (refine ⟨cell_of_blk (Blk.drew hB) (by rfl), rj⟩)
      | (refine ⟨cell_of_blk (Blk.drew (Blk.far hB hga _)) (by rfl), (cell_other _ (by omega)).trans rj⟩)
      | (refine ⟨cell_of_blk (Blk.far (Blk.drew hB) hga _) (by rfl), (cell_other _ (by omega)).trans rj⟩))
    (fail)
  all_goals
    go_wp2_with fail
    go_ret
    have hw := hS.bd (8 + k) (by omega)
    exact ⟨rfl, (hSy.set (k := a) (by omega) _ hw.1 hw.2).keep ((Keep.refl _ (fun _ => False)).drew) (fun h => h), (keep_set hkp g (a) (.int .i32 (f (8 + k)))).drew⟩

set_option maxRecDepth 100000 in
set_option maxHeartbeats 1600000 in
theorem do_13 (w : World) (g : Nat) (f : Nat → Int) (ov : Value) (tr : Int) (a b c : Nat) (k : Nat) (ha : a < 8) (hb : b < 8) (hc : c < 8) (hk16 : k < 40) (hS : StF w g f ov tr) :
    Calls Tryd.prog 14 #[.pointer (some ⟨g, 0, none⟩), .agg #[.int .u8 13, .int .u8 (a : Int), .int .u8 (b : Int), .int .u8 (c : Int), .int .i32 (k : Int)]] w (Does w g (upd f (8 + k) (f a)) ov tr) := by
  have sa := hS.num a (by omega)
  have sb := hS.num b (by omega)
  have sc := hS.num c (by omega)
  have fa := hS.fro a
  have hgl := hS.lt
  have hga : w.heap.size ≠ g := by omega
  have a0 : (0 : Int) ≤ (a : Int) := by omega
  have a1 : (a : Int) < 8 := by omega
  have b0 : (0 : Int) ≤ (b : Int) := by omega
  have b1 : (b : Int) < 8 := by omega
  have c0 : (0 : Int) ≤ (c : Int) := by omega
  have c1 : (c : Int) < 8 := by omega
  have ga : decide ((7 : Int) < (a : Int)) = false := by simp; omega
  have gb : decide ((7 : Int) < (b : Int)) = false := by simp; omega
  have gc : decide ((7 : Int) < (c : Int)) = false := by simp; omega
  have k0 : (0 : Int) ≤ (k : Int) := by omega
  have k1 : (k : Int) < 40 := by omega
  have gk : decide ((k : Int) < 0) = false := by simp
  have gk2 : decide ((40 : Int) ≤ (k : Int)) = false := by simp; omega
  go_enter Tryd.func14, Tryd.ntmps14
  go_wp2_with fail
  go_quiet (fail)
  go_wp2_with fail
  have hkp : Keep w ((w.alloc (.cells #[.int .u8 13, .int .u8 (a : Int), .int .u8 (b : Int), .int .u8 (c : Int), .int .i32 (k : Int)] 49)).drewN nq) (fun _ => False) := ((Keep.refl w _).alloc _).drewN nq
  have hB : Blk ((w.alloc (.cells #[.int .u8 13, .int .u8 (a : Int), .int .u8 (b : Int), .int .u8 (c : Int), .int .i32 (k : Int)] 49)).drewN nq) w.heap.size 49 #[.int .u8 13, .int .u8 (a : Int), .int .u8 (b : Int), .int .u8 (c : Int), .int .i32 (k : Int)] := (Blk.new w _ _).drewN nq
  have hSy := hS.keep hkp (fun h => h)
  have hsy := hSy.lt
  have hBl := hB.lt
  have say := hSy.num a (by omega)
  have fay := hSy.fro a
  clear sa sb sc fa
  have rj := hSy.num (a) (by omega)
  have sj := hSy.num (8 + k) (by omega)
  have fj := hSy.fro (8 + k)
  generalize (w.alloc (.cells #[.int .u8 13, .int .u8 (a : Int), .int .u8 (b : Int), .int .u8 (c : Int), .int .i32 (k : Int)] 49)).drewN nq = wy at *
  go_region_held3 (fun w' => w'.cell? ⟨w.heap.size, 4, none⟩ = some (.int .i32 (k : Int)) ∧ w'.cell? ⟨g, a, none⟩ = some (.int .i32 (f a)))
    (first
      | (refine ⟨cell_of_blk (Blk.drew hB) (by rfl), rj⟩)
      | (refine ⟨cell_of_blk (Blk.drew (Blk.far hB hga _)) (by rfl), (cell_other _ (by omega)).trans rj⟩)
      | (refine ⟨cell_of_blk (Blk.far (Blk.drew hB) hga _) (by rfl), (cell_other _ (by omega)).trans rj⟩))
    (fail)
  all_goals
    go_wp2_with fail
    go_ret
    have hw := hS.bd (a) (by omega)
    exact ⟨rfl, (hSy.set (k := 8 + k) (by omega) _ hw.1 hw.2).keep ((Keep.refl _ (fun _ => False)).drew) (fun h => h), (keep_set hkp g (8 + k) (.int .i32 (f a))).drew⟩

set_option maxRecDepth 100000 in
set_option maxHeartbeats 1600000 in
theorem do_14 (w : World) (g : Nat) (f : Nat → Int) (ov : Value) (tr : Int) (a b c : Nat) (k : Nat) (ha : a < 8) (hb : b < 8) (hc : c < 8) (hk16 : k < 16) (hS : StF w g f ov tr) :
    Calls Tryd.prog 14 #[.pointer (some ⟨g, 0, none⟩), .agg #[.int .u8 14, .int .u8 (a : Int), .int .u8 (b : Int), .int .u8 (c : Int), .int .i32 (k : Int)]] w (Does w g (upd f (64 + k % 8) (f a)) ov tr) := by
  have sa := hS.num a (by omega)
  have sb := hS.num b (by omega)
  have sc := hS.num c (by omega)
  have fa := hS.fro a
  have hgl := hS.lt
  have hga : w.heap.size ≠ g := by omega
  have a0 : (0 : Int) ≤ (a : Int) := by omega
  have a1 : (a : Int) < 8 := by omega
  have b0 : (0 : Int) ≤ (b : Int) := by omega
  have b1 : (b : Int) < 8 := by omega
  have c0 : (0 : Int) ≤ (c : Int) := by omega
  have c1 : (c : Int) < 8 := by omega
  have ga : decide ((7 : Int) < (a : Int)) = false := by simp; omega
  have gb : decide ((7 : Int) < (b : Int)) = false := by simp; omega
  have gc : decide ((7 : Int) < (c : Int)) = false := by simp; omega
  have k0 : (0 : Int) ≤ (k : Int) := by omega
  have k1 : (k : Int) < 16 := by omega
  obtain ⟨m, hm⟩ : ∃ m, k % 8 = m := ⟨_, rfl⟩
  have hl := and7i k hk16
  rw [hm] at hl
  rw [hm]
  have m8 : m < 8 := by omega
  have m0 : (0 : Int) ≤ (m : Int) := by omega
  have m1 : (m : Int) < 8 := by omega
  go_enter Tryd.func14, Tryd.ntmps14
  go_wp2_with fail
  go_quiet (fail)
  go_wp2_with fail
  have hkp : Keep w ((w.alloc (.cells #[.int .u8 14, .int .u8 (a : Int), .int .u8 (b : Int), .int .u8 (c : Int), .int .i32 (k : Int)] 49)).drewN nq) (fun _ => False) := ((Keep.refl w _).alloc _).drewN nq
  have hB : Blk ((w.alloc (.cells #[.int .u8 14, .int .u8 (a : Int), .int .u8 (b : Int), .int .u8 (c : Int), .int .i32 (k : Int)] 49)).drewN nq) w.heap.size 49 #[.int .u8 14, .int .u8 (a : Int), .int .u8 (b : Int), .int .u8 (c : Int), .int .i32 (k : Int)] := (Blk.new w _ _).drewN nq
  have hSy := hS.keep hkp (fun h => h)
  have hsy := hSy.lt
  have hBl := hB.lt
  have say := hSy.num a (by omega)
  have fay := hSy.fro a
  clear sa sb sc fa
  have rj := hSy.num (a) (by omega)
  have sj := hSy.num (64 + m) (by omega)
  have fj := hSy.fro (64 + m)
  generalize (w.alloc (.cells #[.int .u8 14, .int .u8 (a : Int), .int .u8 (b : Int), .int .u8 (c : Int), .int .i32 (k : Int)] 49)).drewN nq = wy at *
  go_region_held3 (fun w' => w'.cell? ⟨w.heap.size, 4, none⟩ = some (.int .i32 (k : Int)) ∧ w'.cell? ⟨g, a, none⟩ = some (.int .i32 (f a)))
    (first
      | (refine ⟨cell_of_blk (Blk.drew hB) (by rfl), rj⟩)
      | (refine ⟨cell_of_blk (Blk.drew (Blk.far hB hga _)) (by rfl), (cell_other _ (by omega)).trans rj⟩)
      | (refine ⟨cell_of_blk (Blk.far (Blk.drew hB) hga _) (by rfl), (cell_other _ (by omega)).trans rj⟩))
    (fail)
  all_goals
    go_wp2_with fail
    go_ret
    have hw := hS.bd (a) (by omega)
    exact ⟨rfl, (hSy.set (k := 64 + m) (by omega) _ hw.1 hw.2).keep ((Keep.refl _ (fun _ => False)).drew) (fun h => h), (keep_set hkp g (64 + m) (.int .i32 (f a))).drew⟩
end Go.Proofs.YthkiajbgdamjgaaDoor

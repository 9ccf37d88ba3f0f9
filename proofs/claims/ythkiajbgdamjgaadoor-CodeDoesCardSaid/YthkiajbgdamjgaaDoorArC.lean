/- The document's arithmetic: operators of two values. Conditions: numbers of 32 bits. -/
import Derived.Test.YthkiajbgdamjgaaDoorArB
namespace Go.Proofs.YthkiajbgdamjgaaDoor
open Go.RowKit
set_option linter.unusedVariables false

/-- How far a shift goes. -/
def cF (t b : Int) : Int := b % bitsF t
theorem bitsF_bd (t : Int) : 16 ≤ bitsF t ∧ bitsF t ≤ 32 := by unfold bitsF; split <;> omega
theorem cF_bd (t b : Int) : 0 ≤ cF t b ∧ cF t b < 32 := by
  have h := bitsF_bd t
  unfold cF
  exact ⟨Int.emod_nonneg _ (by omega), Int.lt_of_lt_of_le (Int.emod_lt_of_pos _ (by omega)) h.2⟩
theorem bits_q (w : World) (t : Int) : Calls Tryd.prog 63 #[.int .i64 t] w fun e w' => e = .returned (.int .i64 (bitsF t)) ∧ w' = w :=
  (bits_any w t).mono fun e w' h => ⟨h.1, h.2.symm⟩
theorem below_drewN' (w : World) (n : Nat) : Below w.heap.size w (w.drewN n) := ⟨rfl, rfl, rfl, Nat.le_refl _, fun _ _ => rfl⟩
theorem tup_eq {a b : Int} {x : Bool} (h : a = b) : Ending.returned (.tuple #[.int .i32 a, .bool x]) = Ending.returned (.tuple #[.int .i32 b, .bool x]) := by rw [h]
/-- An operator of two values: what it answers, and whether it does. -/
def binV (op t a b : Int) : Int :=
  if op = 9 then wrapF t (wrap64 (a * b)) else
  if op = 10 then (if b = 0 then 0 else wrapF t (wrap64 (a.tdiv b))) else
  if op = 11 then (if b = 0 then 0 else wrap32 (wrap64 (a - wrap64 (b * wrap64 (a.tdiv b))))) else
  if op = 12 then wrapF t (a + b) else
  if op = 13 then wrapF t (a - b) else
  if op = 14 then wrapF t (wrap64 (a * tw (cF t b).toNat)) else
  if op = 15 then wrap32 (wrap64 ((wrap64 (a - (wrap64 (a.tmod (tw (cF t b).toNat) + tw (cF t b).toNat)).tmod (tw (cF t b).toNat))).tdiv (tw (cF t b).toNat))) else
  if op = 16 then truthF (decide (a < b)) else
  if op = 17 then truthF (decide (a ≤ b)) else
  if op = 18 then truthF (decide (b < a)) else
  if op = 19 then truthF (decide (b ≤ a)) else
  if op = 20 then truthF (a == b) else
  if op = 21 then truthF (a != b) else
  wrapF 2 (bitsUp op a b 32)
def binB (op b : Int) : Bool := !((op == 10 || op == 11) && b == 0)

set_option maxRecDepth 100000 in
set_option maxHeartbeats 1600000 in
theorem bin_9 (w : World) (t a b : Int) (a0 : -2147483648 ≤ a) (a1 : a ≤ 2147483647) (b0 : -2147483648 ≤ b) (b1 : b ≤ 2147483647) :
    Calls Tryd.prog 46 #[.int .i64 9, .int .i64 t, .int .i32 a, .int .i32 b] w fun e w' => e = .returned (.tuple #[.int .i32 (wrapF t (wrap64 (a * b))), .bool true]) ∧ Below w.heap.size w w' := by
  have hbt := bitsF_bd t
  have g0 := hbt.1
  have g1 := hbt.2
  have hm : (wrap64 (b.tmod (bitsF t) + bitsF t)).tmod (bitsF t) = cF t b := mod_mid (bitsF t) b (by omega) (by omega)
  have HM := Lib.hid hm
  clear hm hbt
  go_enter Tryd.func46, Tryd.ntmps46
  go_wp2_with fail
  go_quiet ((go_at_call 63; with_reducible exact Calls.quiet_of_same (bits_q _ t)))
  generalize hx : (wrap64 (b.tmod (bitsF t) + bitsF t)).tmod (bitsF t) = cc
  have hcc : cc = cF t b := hx.symm.trans HM.out
  have HCC := Lib.hid hcc
  have hcb := cF_bd t b
  rw [← hcc] at hcb
  have c0 := hcb.1
  have c1 := hcb.2
  clear hx hcc hcb HM
  go_wp2_with fail
  refine (wrap_any _ t (wrap64 (a * b))).mono ?_
  rintro e w1 ⟨rfl, rfl⟩
  go_wp2_with fail
  go_ret2
  exact ⟨rfl, below_drewN' _ _⟩

set_option maxRecDepth 100000 in
set_option maxHeartbeats 1600000 in
theorem bin_12 (w : World) (t a b : Int) (a0 : -2147483648 ≤ a) (a1 : a ≤ 2147483647) (b0 : -2147483648 ≤ b) (b1 : b ≤ 2147483647) :
    Calls Tryd.prog 46 #[.int .i64 12, .int .i64 t, .int .i32 a, .int .i32 b] w fun e w' => e = .returned (.tuple #[.int .i32 (wrapF t (a + b)), .bool true]) ∧ Below w.heap.size w w' := by
  have hbt := bitsF_bd t
  have g0 := hbt.1
  have g1 := hbt.2
  have hm : (wrap64 (b.tmod (bitsF t) + bitsF t)).tmod (bitsF t) = cF t b := mod_mid (bitsF t) b (by omega) (by omega)
  have HM := Lib.hid hm
  clear hm hbt
  go_enter Tryd.func46, Tryd.ntmps46
  go_wp2_with fail
  go_quiet ((go_at_call 63; with_reducible exact Calls.quiet_of_same (bits_q _ t)))
  generalize hx : (wrap64 (b.tmod (bitsF t) + bitsF t)).tmod (bitsF t) = cc
  have hcc : cc = cF t b := hx.symm.trans HM.out
  have HCC := Lib.hid hcc
  have hcb := cF_bd t b
  rw [← hcc] at hcb
  have c0 := hcb.1
  have c1 := hcb.2
  clear hx hcc hcb HM
  go_wp2_with fail
  refine (wrap_any _ t (a + b)).mono ?_
  rintro e w1 ⟨rfl, rfl⟩
  go_wp2_with fail
  go_ret2
  exact ⟨rfl, below_drewN' _ _⟩

set_option maxRecDepth 100000 in
set_option maxHeartbeats 1600000 in
theorem bin_13 (w : World) (t a b : Int) (a0 : -2147483648 ≤ a) (a1 : a ≤ 2147483647) (b0 : -2147483648 ≤ b) (b1 : b ≤ 2147483647) :
    Calls Tryd.prog 46 #[.int .i64 13, .int .i64 t, .int .i32 a, .int .i32 b] w fun e w' => e = .returned (.tuple #[.int .i32 (wrapF t (a - b)), .bool true]) ∧ Below w.heap.size w w' := by
  have hbt := bitsF_bd t
  have g0 := hbt.1
  have g1 := hbt.2
  have hm : (wrap64 (b.tmod (bitsF t) + bitsF t)).tmod (bitsF t) = cF t b := mod_mid (bitsF t) b (by omega) (by omega)
  have HM := Lib.hid hm
  clear hm hbt
  go_enter Tryd.func46, Tryd.ntmps46
  go_wp2_with fail
  go_quiet ((go_at_call 63; with_reducible exact Calls.quiet_of_same (bits_q _ t)))
  generalize hx : (wrap64 (b.tmod (bitsF t) + bitsF t)).tmod (bitsF t) = cc
  have hcc : cc = cF t b := hx.symm.trans HM.out
  have HCC := Lib.hid hcc
  have hcb := cF_bd t b
  rw [← hcc] at hcb
  have c0 := hcb.1
  have c1 := hcb.2
  clear hx hcc hcb HM
  go_wp2_with fail
  refine (wrap_any _ t (a - b)).mono ?_
  rintro e w1 ⟨rfl, rfl⟩
  go_wp2_with fail
  go_ret2
  exact ⟨rfl, below_drewN' _ _⟩

set_option maxRecDepth 100000 in
set_option maxHeartbeats 1600000 in
theorem bin_10_0 (w : World) (t a b : Int) (a0 : -2147483648 ≤ a) (a1 : a ≤ 2147483647) (b0 : -2147483648 ≤ b) (b1 : b ≤ 2147483647) (hb : b = 0) :
    Calls Tryd.prog 46 #[.int .i64 10, .int .i64 t, .int .i32 a, .int .i32 b] w fun e w' => e = .returned (.tuple #[.int .i32 (0), .bool false]) ∧ Below w.heap.size w w' := by
  have t0 : (b == 0) = true := by simpa using hb
  clear hb
  have hbt := bitsF_bd t
  have g0 := hbt.1
  have g1 := hbt.2
  have hm : (wrap64 (b.tmod (bitsF t) + bitsF t)).tmod (bitsF t) = cF t b := mod_mid (bitsF t) b (by omega) (by omega)
  have HM := Lib.hid hm
  clear hm hbt
  go_enter Tryd.func46, Tryd.ntmps46
  go_wp2_with fail
  go_quiet ((go_at_call 63; with_reducible exact Calls.quiet_of_same (bits_q _ t)))
  generalize hx : (wrap64 (b.tmod (bitsF t) + bitsF t)).tmod (bitsF t) = cc
  have hcc : cc = cF t b := hx.symm.trans HM.out
  have HCC := Lib.hid hcc
  have hcb := cF_bd t b
  rw [← hcc] at hcb
  have c0 := hcb.1
  have c1 := hcb.2
  clear hx hcc hcb HM
  go_wp2_with fail
  go_ret2
  exact ⟨rfl, below_drewN' _ _⟩

set_option maxRecDepth 100000 in
set_option maxHeartbeats 1600000 in
theorem bin_11_0 (w : World) (t a b : Int) (a0 : -2147483648 ≤ a) (a1 : a ≤ 2147483647) (b0 : -2147483648 ≤ b) (b1 : b ≤ 2147483647) (hb : b = 0) :
    Calls Tryd.prog 46 #[.int .i64 11, .int .i64 t, .int .i32 a, .int .i32 b] w fun e w' => e = .returned (.tuple #[.int .i32 (0), .bool false]) ∧ Below w.heap.size w w' := by
  have t0 : (b == 0) = true := by simpa using hb
  clear hb
  have hbt := bitsF_bd t
  have g0 := hbt.1
  have g1 := hbt.2
  have hm : (wrap64 (b.tmod (bitsF t) + bitsF t)).tmod (bitsF t) = cF t b := mod_mid (bitsF t) b (by omega) (by omega)
  have HM := Lib.hid hm
  clear hm hbt
  go_enter Tryd.func46, Tryd.ntmps46
  go_wp2_with fail
  go_quiet ((go_at_call 63; with_reducible exact Calls.quiet_of_same (bits_q _ t)))
  generalize hx : (wrap64 (b.tmod (bitsF t) + bitsF t)).tmod (bitsF t) = cc
  have hcc : cc = cF t b := hx.symm.trans HM.out
  have HCC := Lib.hid hcc
  have hcb := cF_bd t b
  rw [← hcc] at hcb
  have c0 := hcb.1
  have c1 := hcb.2
  clear hx hcc hcb HM
  go_wp2_with fail
  go_ret2
  exact ⟨rfl, below_drewN' _ _⟩

set_option maxRecDepth 100000 in
set_option maxHeartbeats 1600000 in
theorem bin_10 (w : World) (t a b : Int) (a0 : -2147483648 ≤ a) (a1 : a ≤ 2147483647) (b0 : -2147483648 ≤ b) (b1 : b ≤ 2147483647) (hb : b ≠ 0) :
    Calls Tryd.prog 46 #[.int .i64 10, .int .i64 t, .int .i32 a, .int .i32 b] w fun e w' => e = .returned (.tuple #[.int .i32 (wrapF t (wrap64 (a.tdiv b))), .bool true]) ∧ Below w.heap.size w w' := by
  have t0 : (b == 0) = false := by simpa using hb
  have hbt := bitsF_bd t
  have g0 := hbt.1
  have g1 := hbt.2
  have hm : (wrap64 (b.tmod (bitsF t) + bitsF t)).tmod (bitsF t) = cF t b := mod_mid (bitsF t) b (by omega) (by omega)
  have HM := Lib.hid hm
  clear hm hbt
  go_enter Tryd.func46, Tryd.ntmps46
  go_wp2_with fail
  go_quiet ((go_at_call 63; with_reducible exact Calls.quiet_of_same (bits_q _ t)))
  generalize hx : (wrap64 (b.tmod (bitsF t) + bitsF t)).tmod (bitsF t) = cc
  have hcc : cc = cF t b := hx.symm.trans HM.out
  have HCC := Lib.hid hcc
  have hcb := cF_bd t b
  rw [← hcc] at hcb
  have c0 := hcb.1
  have c1 := hcb.2
  clear hx hcc hcb HM
  go_wp2_with fail
  refine (wrap_any _ t (wrap64 (a.tdiv b))).mono ?_
  rintro e w1 ⟨rfl, rfl⟩
  go_wp2_with fail
  go_ret2
  exact ⟨rfl, below_drewN' _ _⟩

set_option maxRecDepth 100000 in
set_option maxHeartbeats 1600000 in
theorem bin_11 (w : World) (t a b : Int) (a0 : -2147483648 ≤ a) (a1 : a ≤ 2147483647) (b0 : -2147483648 ≤ b) (b1 : b ≤ 2147483647) (hb : b ≠ 0) :
    Calls Tryd.prog 46 #[.int .i64 11, .int .i64 t, .int .i32 a, .int .i32 b] w fun e w' => e = .returned (.tuple #[.int .i32 (wrap32 (wrap64 (a - wrap64 (b * wrap64 (a.tdiv b))))), .bool true]) ∧ Below w.heap.size w w' := by
  have t0 : (b == 0) = false := by simpa using hb
  have hbt := bitsF_bd t
  have g0 := hbt.1
  have g1 := hbt.2
  have hm : (wrap64 (b.tmod (bitsF t) + bitsF t)).tmod (bitsF t) = cF t b := mod_mid (bitsF t) b (by omega) (by omega)
  have HM := Lib.hid hm
  clear hm hbt
  go_enter Tryd.func46, Tryd.ntmps46
  go_wp2_with fail
  go_quiet ((go_at_call 63; with_reducible exact Calls.quiet_of_same (bits_q _ t)))
  generalize hx : (wrap64 (b.tmod (bitsF t) + bitsF t)).tmod (bitsF t) = cc
  have hcc : cc = cF t b := hx.symm.trans HM.out
  have HCC := Lib.hid hcc
  have hcb := cF_bd t b
  rw [← hcc] at hcb
  have c0 := hcb.1
  have c1 := hcb.2
  clear hx hcc hcb HM
  go_wp2_with fail
  go_ret2
  exact ⟨rfl, below_drewN' _ _⟩

set_option maxRecDepth 100000 in
set_option maxHeartbeats 1600000 in
theorem bin_14 (w : World) (t a b : Int) (a0 : -2147483648 ≤ a) (a1 : a ≤ 2147483647) (b0 : -2147483648 ≤ b) (b1 : b ≤ 2147483647) :
    Calls Tryd.prog 46 #[.int .i64 14, .int .i64 t, .int .i32 a, .int .i32 b] w fun e w' => e = .returned (.tuple #[.int .i32 (wrapF t (wrap64 (a * tw (cF t b).toNat))), .bool true]) ∧ Below w.heap.size w w' := by
  have hbt := bitsF_bd t
  have g0 := hbt.1
  have g1 := hbt.2
  have hm : (wrap64 (b.tmod (bitsF t) + bitsF t)).tmod (bitsF t) = cF t b := mod_mid (bitsF t) b (by omega) (by omega)
  have HM := Lib.hid hm
  clear hm hbt
  go_enter Tryd.func46, Tryd.ntmps46
  go_wp2_with fail
  go_quiet ((go_at_call 63; with_reducible exact Calls.quiet_of_same (bits_q _ t)))
  generalize hx : (wrap64 (b.tmod (bitsF t) + bitsF t)).tmod (bitsF t) = cc
  have hcc : cc = cF t b := hx.symm.trans HM.out
  have HCC := Lib.hid hcc
  have hcb := cF_bd t b
  rw [← hcc] at hcb
  have c0 := hcb.1
  have c1 := hcb.2
  clear hx hcc hcb HM
  obtain ⟨k, rfl⟩ := Int.eq_ofNat_of_zero_le c0
  go_wp2_with fail
  refine (two_q _ k (by omega)).mono ?_
  rintro e w1 ⟨rfl, rfl⟩
  go_wp2_with fail
  refine (wrap_any _ t (wrap64 (a * tw k))).mono ?_
  rintro e w1 ⟨rfl, rfl⟩
  go_wp2_with fail
  go_ret2
  exact ⟨tup_eq (by rw [← HCC.out]; rfl), below_drewN' _ _⟩

set_option maxRecDepth 100000 in
set_option maxHeartbeats 1600000 in
theorem bin_15 (w : World) (t a b : Int) (a0 : -2147483648 ≤ a) (a1 : a ≤ 2147483647) (b0 : -2147483648 ≤ b) (b1 : b ≤ 2147483647) :
    Calls Tryd.prog 46 #[.int .i64 15, .int .i64 t, .int .i32 a, .int .i32 b] w fun e w' => e = .returned (.tuple #[.int .i32 (wrap32 (wrap64 ((wrap64 (a - (wrap64 (a.tmod (tw (cF t b).toNat) + tw (cF t b).toNat)).tmod (tw (cF t b).toNat))).tdiv (tw (cF t b).toNat)))), .bool true]) ∧ Below w.heap.size w w' := by
  have hbt := bitsF_bd t
  have g0 := hbt.1
  have g1 := hbt.2
  have hm : (wrap64 (b.tmod (bitsF t) + bitsF t)).tmod (bitsF t) = cF t b := mod_mid (bitsF t) b (by omega) (by omega)
  have HM := Lib.hid hm
  clear hm hbt
  go_enter Tryd.func46, Tryd.ntmps46
  go_wp2_with fail
  go_quiet ((go_at_call 63; with_reducible exact Calls.quiet_of_same (bits_q _ t)))
  generalize hx : (wrap64 (b.tmod (bitsF t) + bitsF t)).tmod (bitsF t) = cc
  have hcc : cc = cF t b := hx.symm.trans HM.out
  have HCC := Lib.hid hcc
  have hcb := cF_bd t b
  rw [← hcc] at hcb
  have c0 := hcb.1
  have c1 := hcb.2
  clear hx hcc hcb HM
  obtain ⟨k, rfl⟩ := Int.eq_ofNat_of_zero_le c0
  have tb := tw_bd k
  have tb1 := tb.1
  have tb2 := tb.2 (by omega)
  clear tb
  go_wp2_with fail
  have hbw := below_drewN' w nq
  generalize w.drewN nq = w1 at *
  go_quiet ((go_at_call 65; with_reducible exact Calls.quiet_of_same (two_q _ k (by omega))))
  go_wp2_with fail
  refine (two_q _ k (by omega)).mono ?_
  rintro e w2 ⟨rfl, rfl⟩
  go_wp2_with fail
  go_ret2
  exact ⟨tup_eq (by rw [← HCC.out]; rfl), hbw.trans ⟨rfl, rfl, rfl, Nat.le_refl _, fun _ _ => rfl⟩⟩

set_option maxRecDepth 100000 in
set_option maxHeartbeats 1600000 in
theorem bin_16 (w : World) (t a b : Int) (a0 : -2147483648 ≤ a) (a1 : a ≤ 2147483647) (b0 : -2147483648 ≤ b) (b1 : b ≤ 2147483647) :
    Calls Tryd.prog 46 #[.int .i64 16, .int .i64 t, .int .i32 a, .int .i32 b] w fun e w' => e = .returned (.tuple #[.int .i32 (truthF (decide (a < b))), .bool true]) ∧ Below w.heap.size w w' := by
  have hbt := bitsF_bd t
  have g0 := hbt.1
  have g1 := hbt.2
  have hm : (wrap64 (b.tmod (bitsF t) + bitsF t)).tmod (bitsF t) = cF t b := mod_mid (bitsF t) b (by omega) (by omega)
  have HM := Lib.hid hm
  clear hm hbt
  go_enter Tryd.func46, Tryd.ntmps46
  go_wp2_with fail
  go_quiet ((go_at_call 63; with_reducible exact Calls.quiet_of_same (bits_q _ t)))
  generalize hx : (wrap64 (b.tmod (bitsF t) + bitsF t)).tmod (bitsF t) = cc
  have hcc : cc = cF t b := hx.symm.trans HM.out
  have HCC := Lib.hid hcc
  have hcb := cF_bd t b
  rw [← hcc] at hcb
  have c0 := hcb.1
  have c1 := hcb.2
  clear hx hcc hcb HM
  go_wp2_with fail
  refine (truth_any _ (decide (a < b))).mono ?_
  rintro e w1 ⟨rfl, rfl⟩
  go_wp2_with fail
  go_ret2
  exact ⟨rfl, below_drewN' _ _⟩

set_option maxRecDepth 100000 in
set_option maxHeartbeats 1600000 in
theorem bin_17 (w : World) (t a b : Int) (a0 : -2147483648 ≤ a) (a1 : a ≤ 2147483647) (b0 : -2147483648 ≤ b) (b1 : b ≤ 2147483647) :
    Calls Tryd.prog 46 #[.int .i64 17, .int .i64 t, .int .i32 a, .int .i32 b] w fun e w' => e = .returned (.tuple #[.int .i32 (truthF (decide (a ≤ b))), .bool true]) ∧ Below w.heap.size w w' := by
  have hbt := bitsF_bd t
  have g0 := hbt.1
  have g1 := hbt.2
  have hm : (wrap64 (b.tmod (bitsF t) + bitsF t)).tmod (bitsF t) = cF t b := mod_mid (bitsF t) b (by omega) (by omega)
  have HM := Lib.hid hm
  clear hm hbt
  go_enter Tryd.func46, Tryd.ntmps46
  go_wp2_with fail
  go_quiet ((go_at_call 63; with_reducible exact Calls.quiet_of_same (bits_q _ t)))
  generalize hx : (wrap64 (b.tmod (bitsF t) + bitsF t)).tmod (bitsF t) = cc
  have hcc : cc = cF t b := hx.symm.trans HM.out
  have HCC := Lib.hid hcc
  have hcb := cF_bd t b
  rw [← hcc] at hcb
  have c0 := hcb.1
  have c1 := hcb.2
  clear hx hcc hcb HM
  go_wp2_with fail
  refine (truth_any _ (decide (a ≤ b))).mono ?_
  rintro e w1 ⟨rfl, rfl⟩
  go_wp2_with fail
  go_ret2
  exact ⟨rfl, below_drewN' _ _⟩

set_option maxRecDepth 100000 in
set_option maxHeartbeats 1600000 in
theorem bin_18 (w : World) (t a b : Int) (a0 : -2147483648 ≤ a) (a1 : a ≤ 2147483647) (b0 : -2147483648 ≤ b) (b1 : b ≤ 2147483647) :
    Calls Tryd.prog 46 #[.int .i64 18, .int .i64 t, .int .i32 a, .int .i32 b] w fun e w' => e = .returned (.tuple #[.int .i32 (truthF (decide (b < a))), .bool true]) ∧ Below w.heap.size w w' := by
  have hbt := bitsF_bd t
  have g0 := hbt.1
  have g1 := hbt.2
  have hm : (wrap64 (b.tmod (bitsF t) + bitsF t)).tmod (bitsF t) = cF t b := mod_mid (bitsF t) b (by omega) (by omega)
  have HM := Lib.hid hm
  clear hm hbt
  go_enter Tryd.func46, Tryd.ntmps46
  go_wp2_with fail
  go_quiet ((go_at_call 63; with_reducible exact Calls.quiet_of_same (bits_q _ t)))
  generalize hx : (wrap64 (b.tmod (bitsF t) + bitsF t)).tmod (bitsF t) = cc
  have hcc : cc = cF t b := hx.symm.trans HM.out
  have HCC := Lib.hid hcc
  have hcb := cF_bd t b
  rw [← hcc] at hcb
  have c0 := hcb.1
  have c1 := hcb.2
  clear hx hcc hcb HM
  go_wp2_with fail
  refine (truth_any _ (decide (b < a))).mono ?_
  rintro e w1 ⟨rfl, rfl⟩
  go_wp2_with fail
  go_ret2
  exact ⟨rfl, below_drewN' _ _⟩

set_option maxRecDepth 100000 in
set_option maxHeartbeats 1600000 in
theorem bin_19 (w : World) (t a b : Int) (a0 : -2147483648 ≤ a) (a1 : a ≤ 2147483647) (b0 : -2147483648 ≤ b) (b1 : b ≤ 2147483647) :
    Calls Tryd.prog 46 #[.int .i64 19, .int .i64 t, .int .i32 a, .int .i32 b] w fun e w' => e = .returned (.tuple #[.int .i32 (truthF (decide (b ≤ a))), .bool true]) ∧ Below w.heap.size w w' := by
  have hbt := bitsF_bd t
  have g0 := hbt.1
  have g1 := hbt.2
  have hm : (wrap64 (b.tmod (bitsF t) + bitsF t)).tmod (bitsF t) = cF t b := mod_mid (bitsF t) b (by omega) (by omega)
  have HM := Lib.hid hm
  clear hm hbt
  go_enter Tryd.func46, Tryd.ntmps46
  go_wp2_with fail
  go_quiet ((go_at_call 63; with_reducible exact Calls.quiet_of_same (bits_q _ t)))
  generalize hx : (wrap64 (b.tmod (bitsF t) + bitsF t)).tmod (bitsF t) = cc
  have hcc : cc = cF t b := hx.symm.trans HM.out
  have HCC := Lib.hid hcc
  have hcb := cF_bd t b
  rw [← hcc] at hcb
  have c0 := hcb.1
  have c1 := hcb.2
  clear hx hcc hcb HM
  go_wp2_with fail
  refine (truth_any _ (decide (b ≤ a))).mono ?_
  rintro e w1 ⟨rfl, rfl⟩
  go_wp2_with fail
  go_ret2
  exact ⟨rfl, below_drewN' _ _⟩

set_option maxRecDepth 100000 in
set_option maxHeartbeats 1600000 in
theorem bin_20 (w : World) (t a b : Int) (a0 : -2147483648 ≤ a) (a1 : a ≤ 2147483647) (b0 : -2147483648 ≤ b) (b1 : b ≤ 2147483647) :
    Calls Tryd.prog 46 #[.int .i64 20, .int .i64 t, .int .i32 a, .int .i32 b] w fun e w' => e = .returned (.tuple #[.int .i32 (truthF (a == b)), .bool true]) ∧ Below w.heap.size w w' := by
  have hbt := bitsF_bd t
  have g0 := hbt.1
  have g1 := hbt.2
  have hm : (wrap64 (b.tmod (bitsF t) + bitsF t)).tmod (bitsF t) = cF t b := mod_mid (bitsF t) b (by omega) (by omega)
  have HM := Lib.hid hm
  clear hm hbt
  go_enter Tryd.func46, Tryd.ntmps46
  go_wp2_with fail
  go_quiet ((go_at_call 63; with_reducible exact Calls.quiet_of_same (bits_q _ t)))
  generalize hx : (wrap64 (b.tmod (bitsF t) + bitsF t)).tmod (bitsF t) = cc
  have hcc : cc = cF t b := hx.symm.trans HM.out
  have HCC := Lib.hid hcc
  have hcb := cF_bd t b
  rw [← hcc] at hcb
  have c0 := hcb.1
  have c1 := hcb.2
  clear hx hcc hcb HM
  go_wp2_with fail
  refine (truth_any _ (a == b)).mono ?_
  rintro e w1 ⟨rfl, rfl⟩
  go_wp2_with fail
  go_ret2
  exact ⟨rfl, below_drewN' _ _⟩

set_option maxRecDepth 100000 in
set_option maxHeartbeats 1600000 in
theorem bin_21 (w : World) (t a b : Int) (a0 : -2147483648 ≤ a) (a1 : a ≤ 2147483647) (b0 : -2147483648 ≤ b) (b1 : b ≤ 2147483647) :
    Calls Tryd.prog 46 #[.int .i64 21, .int .i64 t, .int .i32 a, .int .i32 b] w fun e w' => e = .returned (.tuple #[.int .i32 (truthF (a != b)), .bool true]) ∧ Below w.heap.size w w' := by
  have hbt := bitsF_bd t
  have g0 := hbt.1
  have g1 := hbt.2
  have hm : (wrap64 (b.tmod (bitsF t) + bitsF t)).tmod (bitsF t) = cF t b := mod_mid (bitsF t) b (by omega) (by omega)
  have HM := Lib.hid hm
  clear hm hbt
  go_enter Tryd.func46, Tryd.ntmps46
  go_wp2_with fail
  go_quiet ((go_at_call 63; with_reducible exact Calls.quiet_of_same (bits_q _ t)))
  generalize hx : (wrap64 (b.tmod (bitsF t) + bitsF t)).tmod (bitsF t) = cc
  have hcc : cc = cF t b := hx.symm.trans HM.out
  have HCC := Lib.hid hcc
  have hcb := cF_bd t b
  rw [← hcc] at hcb
  have c0 := hcb.1
  have c1 := hcb.2
  clear hx hcc hcb HM
  go_wp2_with fail
  refine (truth_any _ (a != b)).mono ?_
  rintro e w1 ⟨rfl, rfl⟩
  go_wp2_with fail
  go_ret2
  exact ⟨rfl, below_drewN' _ _⟩

set_option maxRecDepth 100000 in
set_option maxHeartbeats 1600000 in
theorem bin_22 (w : World) (t a b : Int) (a0 : -2147483648 ≤ a) (a1 : a ≤ 2147483647) (b0 : -2147483648 ≤ b) (b1 : b ≤ 2147483647) :
    Calls Tryd.prog 46 #[.int .i64 22, .int .i64 t, .int .i32 a, .int .i32 b] w fun e w' => e = .returned (.tuple #[.int .i32 (wrapF 2 (bitsUp 22 a b 32)), .bool true]) ∧ Below w.heap.size w w' := by
  have hbt := bitsF_bd t
  have g0 := hbt.1
  have g1 := hbt.2
  have hm : (wrap64 (b.tmod (bitsF t) + bitsF t)).tmod (bitsF t) = cF t b := mod_mid (bitsF t) b (by omega) (by omega)
  have HM := Lib.hid hm
  clear hm hbt
  go_enter Tryd.func46, Tryd.ntmps46
  go_wp2_with fail
  go_quiet ((go_at_call 63; with_reducible exact Calls.quiet_of_same (bits_q _ t)))
  generalize hx : (wrap64 (b.tmod (bitsF t) + bitsF t)).tmod (bitsF t) = cc
  have hcc : cc = cF t b := hx.symm.trans HM.out
  have HCC := Lib.hid hcc
  have hcb := cF_bd t b
  rw [← hcc] at hcb
  have c0 := hcb.1
  have c1 := hcb.2
  clear hx hcc hcb HM
  go_wp2_with fail
  refine (bitwise_any _ 22 a b).mono ?_
  rintro e w1 ⟨rfl, hb1⟩
  go_wp2_with fail
  refine (wrap_any _ 2 _).mono ?_
  rintro e w2 ⟨rfl, rfl⟩
  go_wp2_with fail
  go_ret2
  exact ⟨rfl, (below_drewN' w _).trans hb1⟩

set_option maxRecDepth 100000 in
set_option maxHeartbeats 1600000 in
theorem bin_23 (w : World) (t a b : Int) (a0 : -2147483648 ≤ a) (a1 : a ≤ 2147483647) (b0 : -2147483648 ≤ b) (b1 : b ≤ 2147483647) :
    Calls Tryd.prog 46 #[.int .i64 23, .int .i64 t, .int .i32 a, .int .i32 b] w fun e w' => e = .returned (.tuple #[.int .i32 (wrapF 2 (bitsUp 23 a b 32)), .bool true]) ∧ Below w.heap.size w w' := by
  have hbt := bitsF_bd t
  have g0 := hbt.1
  have g1 := hbt.2
  have hm : (wrap64 (b.tmod (bitsF t) + bitsF t)).tmod (bitsF t) = cF t b := mod_mid (bitsF t) b (by omega) (by omega)
  have HM := Lib.hid hm
  clear hm hbt
  go_enter Tryd.func46, Tryd.ntmps46
  go_wp2_with fail
  go_quiet ((go_at_call 63; with_reducible exact Calls.quiet_of_same (bits_q _ t)))
  generalize hx : (wrap64 (b.tmod (bitsF t) + bitsF t)).tmod (bitsF t) = cc
  have hcc : cc = cF t b := hx.symm.trans HM.out
  have HCC := Lib.hid hcc
  have hcb := cF_bd t b
  rw [← hcc] at hcb
  have c0 := hcb.1
  have c1 := hcb.2
  clear hx hcc hcb HM
  go_wp2_with fail
  refine (bitwise_any _ 23 a b).mono ?_
  rintro e w1 ⟨rfl, hb1⟩
  go_wp2_with fail
  refine (wrap_any _ 2 _).mono ?_
  rintro e w2 ⟨rfl, rfl⟩
  go_wp2_with fail
  go_ret2
  exact ⟨rfl, (below_drewN' w _).trans hb1⟩

set_option maxRecDepth 100000 in
set_option maxHeartbeats 1600000 in
theorem bin_24 (w : World) (t a b : Int) (a0 : -2147483648 ≤ a) (a1 : a ≤ 2147483647) (b0 : -2147483648 ≤ b) (b1 : b ≤ 2147483647) :
    Calls Tryd.prog 46 #[.int .i64 24, .int .i64 t, .int .i32 a, .int .i32 b] w fun e w' => e = .returned (.tuple #[.int .i32 (wrapF 2 (bitsUp 24 a b 32)), .bool true]) ∧ Below w.heap.size w w' := by
  have hbt := bitsF_bd t
  have g0 := hbt.1
  have g1 := hbt.2
  have hm : (wrap64 (b.tmod (bitsF t) + bitsF t)).tmod (bitsF t) = cF t b := mod_mid (bitsF t) b (by omega) (by omega)
  have HM := Lib.hid hm
  clear hm hbt
  go_enter Tryd.func46, Tryd.ntmps46
  go_wp2_with fail
  go_quiet ((go_at_call 63; with_reducible exact Calls.quiet_of_same (bits_q _ t)))
  generalize hx : (wrap64 (b.tmod (bitsF t) + bitsF t)).tmod (bitsF t) = cc
  have hcc : cc = cF t b := hx.symm.trans HM.out
  have HCC := Lib.hid hcc
  have hcb := cF_bd t b
  rw [← hcc] at hcb
  have c0 := hcb.1
  have c1 := hcb.2
  clear hx hcc hcb HM
  go_wp2_with fail
  refine (bitwise_any _ 24 a b).mono ?_
  rintro e w1 ⟨rfl, hb1⟩
  go_wp2_with fail
  refine (wrap_any _ 2 _).mono ?_
  rintro e w2 ⟨rfl, rfl⟩
  go_wp2_with fail
  go_ret2
  exact ⟨rfl, (below_drewN' w _).trans hb1⟩

theorem w16_bd (v : Int) : -2147483648 ≤ w16 v ∧ w16 v ≤ 2147483647 := by unfold w16; omega
theorem w32_bd (v : Int) : -2147483648 ≤ wrap32 v ∧ wrap32 v ≤ 2147483647 := by unfold wrap32; omega
theorem wrapF_bd (t v : Int) : -2147483648 ≤ wrapF t v ∧ wrapF t v ≤ 2147483647 := by
  unfold wrapF
  split
  · exact w16_bd v
  · exact w32_bd v
theorem truthF_bd (b : Bool) : -2147483648 ≤ truthF b ∧ truthF b ≤ 2147483647 := by cases b <;> simp [truthF]
theorem unF_bd (op t a : Int) (h0 : -2147483648 ≤ a) (h1 : a ≤ 2147483647) : -2147483648 ≤ unF op t a ∧ unF op t a ≤ 2147483647 := by
  unfold unF
  by_cases h4 : op = 4
  · rw [if_pos h4]; exact wrapF_bd _ _
  rw [if_neg h4]
  by_cases h5 : op = 5
  · rw [if_pos h5]; exact w32_bd _
  rw [if_neg h5]
  by_cases h6 : op = 6
  · rw [if_pos h6]; split <;> omega
  rw [if_neg h6]
  by_cases h7 : op = 7
  · rw [if_pos h7]; exact wrapF_bd _ _
  rw [if_neg h7]
  exact ⟨h0, h1⟩
theorem binV_bd (op t a b : Int) : -2147483648 ≤ binV op t a b ∧ binV op t a b ≤ 2147483647 := by
  have ite : ∀ (c : Prop) [Decidable c] (x y : Int), (-2147483648 ≤ x ∧ x ≤ 2147483647) → (-2147483648 ≤ y ∧ y ≤ 2147483647) → -2147483648 ≤ (if c then x else y) ∧ (if c then x else y) ≤ 2147483647 := fun c _ x y hx hy => by
    by_cases h : c
    · rw [if_pos h]; exact hx
    · rw [if_neg h]; exact hy
  unfold binV
  repeat' (first | exact wrapF_bd _ _ | exact w32_bd _ | exact truthF_bd _ | exact ⟨by decide, by decide⟩ | refine ite _ _ _ ?_ ?_)
/-- Bin, whatever its operator. -/
theorem bin_any (w : World) (op t a b : Int) (a0 : -2147483648 ≤ a) (a1 : a ≤ 2147483647) (b0 : -2147483648 ≤ b) (b1 : b ≤ 2147483647) (h0 : 9 ≤ op) (h1 : op ≤ 24) :
    Calls Tryd.prog 46 #[.int .i64 op, .int .i64 t, .int .i32 a, .int .i32 b] w fun e w' => e = .returned (.tuple #[.int .i32 (binV op t a b), .bool (binB op b)]) ∧ Below w.heap.size w w' := by
  have hop : op = 9 ∨ op = 10 ∨ op = 11 ∨ op = 12 ∨ op = 13 ∨ op = 14 ∨ op = 15 ∨ op = 16 ∨ op = 17 ∨ op = 18 ∨ op = 19 ∨ op = 20 ∨ op = 21 ∨ op = 22 ∨ op = 23 ∨ op = 24 := by omega
  rcases hop with rfl | rfl | rfl | rfl | rfl | rfl | rfl | rfl | rfl | rfl | rfl | rfl | rfl | rfl | rfl | rfl
  · have h := bin_9 w t a b a0 a1 b0 b1
    simpa [binV, binB] using h
  · by_cases hb : b = 0
    · have h := bin_10_0 w t a b a0 a1 b0 b1 hb
      simpa [binV, binB, hb] using h
    · have h := bin_10 w t a b a0 a1 b0 b1 hb
      have hbb : (b == 0) = false := by simpa using hb
      simpa [binV, binB, hb, hbb] using h
  · by_cases hb : b = 0
    · have h := bin_11_0 w t a b a0 a1 b0 b1 hb
      simpa [binV, binB, hb] using h
    · have h := bin_11 w t a b a0 a1 b0 b1 hb
      have hbb : (b == 0) = false := by simpa using hb
      simpa [binV, binB, hb, hbb] using h
  · have h := bin_12 w t a b a0 a1 b0 b1
    simpa [binV, binB] using h
  · have h := bin_13 w t a b a0 a1 b0 b1
    simpa [binV, binB] using h
  · have h := bin_14 w t a b a0 a1 b0 b1
    simpa [binV, binB] using h
  · have h := bin_15 w t a b a0 a1 b0 b1
    simpa [binV, binB] using h
  · have h := bin_16 w t a b a0 a1 b0 b1
    simpa [binV, binB] using h
  · have h := bin_17 w t a b a0 a1 b0 b1
    simpa [binV, binB] using h
  · have h := bin_18 w t a b a0 a1 b0 b1
    simpa [binV, binB] using h
  · have h := bin_19 w t a b a0 a1 b0 b1
    simpa [binV, binB] using h
  · have h := bin_20 w t a b a0 a1 b0 b1
    simpa [binV, binB] using h
  · have h := bin_21 w t a b a0 a1 b0 b1
    simpa [binV, binB] using h
  · have h := bin_22 w t a b a0 a1 b0 b1
    simpa [binV, binB] using h
  · have h := bin_23 w t a b a0 a1 b0 b1
    simpa [binV, binB] using h
  · have h := bin_24 w t a b a0 a1 b0 b1
    simpa [binV, binB] using h
end Go.Proofs.YthkiajbgdamjgaaDoor

/- Pack and Unpack, of both packages. Conditions: a number of 32 bits; a size of at least 1, or below. -/
import Derived.Test.YthkiajbgdamjgaaDoorCodC
import Derived.Test.YthkiajbgdamjgaaDoorRefA
namespace Go.Proofs.YthkiajbgdamjgaaDoor
open Go.RowKit

theorem w64in (x : Int) (h0 : -9223372036854775808 ≤ x) (h1 : x ≤ 9223372036854775807) : wrap64 x = x := by
  unfold wrap64; omega
theorem ediv_bd {n s : Int} (h0 : -2147483648 ≤ n) (h1 : n ≤ 2147483647) (s0 : 1 ≤ s) : -2147483648 ≤ n / s ∧ n / s ≤ 2147483647 := by
  by_cases hn : 0 ≤ n
  · have a := Int.ediv_nonneg hn (by omega : 0 ≤ s)
    have b := Int.ediv_le_self s hn
    omega
  · have a : n ≤ n / s := (Int.le_ediv_iff_mul_le (by omega)).2 (by
      have := Int.mul_le_mul_of_nonpos_left (a := n) (by omega : n ≤ 0) s0
      omega)
    have b := Int.ediv_neg_of_neg_of_pos (by omega : n < 0) (by omega : 0 < s)
    omega
theorem tm_neg {n s : Int} (h0 : -2147483648 ≤ n) (h1 : n ≤ 2147483647) (s0 : 1 ≤ s) (s1 : s ≤ 1000000) (h : n.tmod s < 0) : wrap64 (n.tdiv s - 1) = n / s ∧ wrap64 (n.tmod s + s) = n % s := by
  have a := Int.mul_tdiv_add_tmod n s
  have b := Int.lt_tmod_of_pos n (b := s) (by omega)
  have e := (Int.ediv_emod_unique (a := n) (b := s) (q := n.tdiv s - 1) (r := n.tmod s + s) (by omega)).2 ⟨by rw [Int.mul_sub]; omega, by omega, by omega⟩
  have f := ediv_bd h0 h1 s0
  obtain ⟨e1, e2⟩ := e
  exact ⟨by rw [e1]; exact w64in _ (by omega) (by omega), by rw [e2]; exact w64in _ (by omega) (by omega)⟩
theorem tm_pos {n s : Int} (s0 : 1 ≤ s) (h : 0 ≤ n.tmod s) : n.tdiv s = n / s ∧ n.tmod s = n % s := by
  have a := Int.mul_tdiv_add_tmod n s
  have b := Int.tmod_lt_of_pos n (b := s) (by omega)
  have e := (Int.ediv_emod_unique (a := n) (b := s) (q := n.tdiv s) (r := n.tmod s) (by omega)).2 ⟨by omega, by omega, by omega⟩
  exact ⟨e.1.symm, e.2.symm⟩
theorem tm_ref {n s : Int} (h0 : -2147483648 ≤ n) (h1 : n ≤ 2147483647) (s0 : 1 ≤ s) (s1 : s ≤ 1000000) : (wrap64 (n.tmod s + s)).tmod s = n % s ∧ wrap64 ((wrap64 (n - n % s)).tdiv s) = n / s := by
  have b := Int.lt_tmod_of_pos n (b := s) (by omega)
  have b' := Int.tmod_lt_of_pos n (b := s) (by omega)
  have f := ediv_bd h0 h1 s0
  have m0 := Int.emod_nonneg n (by omega : s ≠ 0)
  have m1 := Int.emod_lt_of_pos n (by omega : 0 < s)
  refine ⟨?_, ?_⟩
  · rw [w64in _ (by omega) (by omega)]
    by_cases h : n.tmod s < 0
    · have e := tm_neg h0 h1 s0 s1 h
      rw [w64in (n.tmod s + s) (by omega) (by omega)] at e
      rw [e.2, Int.tmod_eq_emod_of_nonneg m0, Int.emod_emod_of_dvd _ (Int.dvd_refl s)]
    · have e := tm_pos s0 (by omega : 0 ≤ n.tmod s)
      rw [e.2, Int.tmod_eq_emod_of_nonneg (by omega), Int.add_emod_right, Int.emod_emod_of_dvd _ (Int.dvd_refl s)]
  · have e : n - n % s = s * (n / s) := by have := Int.mul_ediv_add_emod n s; omega
    rw [w64in (n - n % s) (by omega) (by omega), e, Int.mul_tdiv_cancel_left _ (by omega)]
    exact w64in _ (by omega) (by omega)

theorem tuple_eq {a b c d : Int} (h : a = c ∧ b = d) : Ending.returned (.tuple #[.int .i64 a, .int .i64 b]) = Ending.returned (.tuple #[.int .i64 c, .int .i64 d]) := by rw [h.1, h.2]
set_option maxRecDepth 100000 in
set_option maxHeartbeats 800000 in
theorem unpack_any (w : World) (n s : Int) (h0 : -2147483648 ≤ n) (h1 : n ≤ 2147483647) (s0 : 1 ≤ s) (s1 : s ≤ 1000000) :
    Calls Tryd.prog 17 #[.int .i32 n, .int .i64 s] w fun e w' => e = .returned (.tuple #[.int .i64 (n / s), .int .i64 (n % s)]) ∧ ∃ k, w.drewN k = w' := by
  have HN := Lib.hid (tm_neg h0 h1 s0 s1)
  have HP := Lib.hid (tm_pos (n := n) s0)
  go_enter Tryd.func17, Tryd.ntmps17
  go_wp2_with fail
  go_quiet (fail)
  go_wp2_with fail
  · have h : n.tmod s < 0 := by assumption
    go_ret2
    exact ⟨tuple_eq (HN.out h), _, rfl⟩
  · have h : 0 ≤ n.tmod s := by assumption
    go_ret2
    exact ⟨tuple_eq (HP.out h), _, rfl⟩
set_option maxRecDepth 100000 in
set_option maxHeartbeats 800000 in
theorem unpack_low (w : World) (n s : Int) (s0 : s < 1) :
    Calls Tryd.prog 17 #[.int .i32 n, .int .i64 s] w fun e w' => e = .returned (.tuple #[.int .i64 0, .int .i64 0]) ∧ w = w' := by
  go_enter Tryd.func17, Tryd.ntmps17
  go_wp2_with fail
  go_ret2
  exact ⟨rfl, rfl⟩
set_option maxRecDepth 100000 in
set_option maxHeartbeats 800000 in
theorem runpack_any (w : World) (n s : Int) (h0 : -2147483648 ≤ n) (h1 : n ≤ 2147483647) (s0 : 1 ≤ s) (s1 : s ≤ 1000000) :
    Calls Tryd.prog 18 #[.int .i32 n, .int .i64 s] w fun e w' => e = .returned (.tuple #[.int .i64 (n / s), .int .i64 (n % s)]) ∧ w = w' := by
  have hr := tm_ref h0 h1 s0 s1
  have HR := Lib.hid hr
  clear hr
  go_enter Tryd.func18, Tryd.ntmps18
  go_wp2_with fail
  go_ret2
  exact ⟨tuple_eq (⟨by rw [HR.out.1, HR.out.2], HR.out.1⟩), rfl⟩
set_option maxRecDepth 100000 in
set_option maxHeartbeats 800000 in
theorem runpack_low (w : World) (n s : Int) (s0 : s < 1) :
    Calls Tryd.prog 18 #[.int .i32 n, .int .i64 s] w fun e w' => e = .returned (.tuple #[.int .i64 0, .int .i64 0]) ∧ w = w' := by
  go_enter Tryd.func18, Tryd.ntmps18
  go_wp2_with fail
  go_ret2
  exact ⟨rfl, rfl⟩
set_option maxRecDepth 100000 in
set_option maxHeartbeats 800000 in
theorem rpack_any (w : World) (h s l : Int) : Calls Tryd.prog 16 #[.int .i64 h, .int .i64 s, .int .i64 l] w fun e w' => e = .returned (.int .i32 (wrap32 (wrap64 (wrap64 (h * s) + l)))) ∧ w = w' := by
  go_enter Tryd.func16, Tryd.ntmps16
  go_wp2_with fail
  refine (low_any _ _).mono ?_
  rintro e w' ⟨rfl, rfl⟩
  go_wp2_with fail
  go_ret
  exact ⟨rfl, rfl⟩
end Go.Proofs.YthkiajbgdamjgaaDoor

/- The document's arithmetic: powers of two, truth, wrapping, operators of one value. Conditions: numbers of 32 bits. -/
import Derived.Test.YthkiajbgdamjgaaDoorProg
import Derived.Test.YthkiajbgdamjgaaDoorMem
namespace Go.Proofs.YthkiajbgdamjgaaDoor
open Go.RowKit

/-- A power of two. -/
def tw : Nat → Int
  | 0 => 1
  | k + 1 => 2 * tw k
theorem tw_bd : ∀ k : Nat, 1 ≤ tw k ∧ (k ≤ 32 → tw k ≤ 4294967296)
  | 0 => by simp [tw]
  | k + 1 => by
    have ih := tw_bd k
    refine ⟨by simp only [tw]; omega, fun hk => ?_⟩
    have h : ∀ j : Nat, j ≤ 32 → tw j ≤ 4294967296 := by
      intro j hj
      have hc : ∀ m : Nat, m ≤ 32 → tw m = ((2 ^ m : Nat) : Int) := by
        intro m _
        induction m with
        | zero => rfl
        | succ m ihm => simp only [tw]; rw [ihm (by omega), Nat.pow_succ]; omega
      rw [hc j hj]
      have : 2 ^ j ≤ 2 ^ 32 := Nat.pow_le_pow_right (by decide) hj
      omega
    exact h (k + 1) hk

set_option maxRecDepth 100000 in
set_option maxHeartbeats 800000 in
theorem twop_any (w : World) (n : Nat) (hn : n ≤ 32) :
    Calls Tryd.prog 65 #[.int .i64 (n : Int)] w fun e w' => e = .returned (.int .i64 (tw n)) ∧ w = w' := by
  go_enter Tryd.func65, Tryd.ntmps65
  go_wp2
  go_loop [3, 4] (fun v i => ∃ k : Nat, k ≤ n ∧ i = .int .i64 k ∧ v = .int .i64 (tw k)) (fun _ i => n - (intOf i).toNat)
  case atStart => exact ⟨0, Nat.zero_le _, rfl, rfl⟩
  case round =>
    obtain ⟨k, hk, rfl, rfl⟩ := hrel
    have b := tw_bd k
    have b1 := b.1
    have b2 := b.2 (by omega)
    clear b
    by_cases hlt : k < n
    · go_wp2
      go_round
      case rel => exact ⟨k + 1, by omega, by go_num, rfl⟩
      case measure => simp [intOf]; omega
    · go_wp2
      go_ret
      have e : k = n := by omega
      exact ⟨by rw [e]; rfl, rfl⟩

/-- 1 of what is so. -/
def truthF (b : Bool) : Int := if b then 1 else 0
theorem truth_any (w : World) (b : Bool) : Calls Tryd.prog 66 #[.bool b] w fun e w' => e = .returned (.int .i32 (truthF b)) ∧ w = w' := by
  cases b
  all_goals
    go_enter Tryd.func66, Tryd.ntmps66
    go_wp2
    go_ret
    exact ⟨rfl, rfl⟩
/-- How many bits a type has. -/
def bitsF (t : Int) : Int := if t = 1 then 16 else 32
theorem bits_any (w : World) (t : Int) : Calls Tryd.prog 63 #[.int .i64 t] w fun e w' => e = .returned (.int .i64 (bitsF t)) ∧ w = w' := by
  by_cases h : t = 1
  · subst h
    go_enter Tryd.func63, Tryd.ntmps63
    go_wp2
    go_ret
    exact ⟨rfl, rfl⟩
  · have t1 : (t == 1) = false := by simpa using h
    have e : bitsF t = 32 := by simp [bitsF, h]
    rw [e]
    clear e h
    go_enter Tryd.func63, Tryd.ntmps63
    go_wp2
    go_ret
    exact ⟨rfl, rfl⟩
/-- A number wrapped to a type. -/
def w16 (v : Int) : Int := (v + 32768) % 65536 - 32768
def wrapF (t v : Int) : Int := if t = 1 then w16 v else wrap32 v
theorem a64in (x : Int) (h0 : -9223372036854775808 ≤ x) (h1 : x ≤ 9223372036854775807) : wrap64 x = x := by
  unfold wrap64; omega
theorem mod_mid (m n : Int) (hm : 0 < m) (hm2 : m ≤ 4294967296) : (wrap64 (n.tmod m + m)).tmod m = n % m := by
  have a0 := Int.tmod_lt_of_pos n (b := m) hm
  have a1 := Int.lt_tmod_of_pos n (b := m) hm
  have a2 := Int.mul_tdiv_add_tmod n m
  rw [a64in _ (by omega) (by omega), Int.tmod_eq_emod_of_nonneg (by omega), Int.add_emod_right]
  have e : n = n.tmod m + m * n.tdiv m := by omega
  conv => rhs; rw [e]
  rw [Int.add_mul_emod_self_left]
theorem wrap16_big (v : Int) (h : 32768 ≤ v % 65536) : wrap32 (wrap64 (v % 65536 - 65536)) = w16 v := by
  rw [a64in _ (by omega) (by omega)]
  unfold w16 wrap32
  omega
theorem wrap16_small (v : Int) (h : v % 65536 < 32768) : wrap32 (v % 65536) = w16 v := by
  unfold w16 wrap32
  omega
theorem wrap32_big (v : Int) : wrap32 (wrap64 (v % 4294967296 - 4294967296)) = wrap32 v := by
  rw [a64in _ (by omega) (by omega)]
  unfold wrap32
  omega
theorem wrap32_small (v : Int) : wrap32 (v % 4294967296) = wrap32 v := by
  unfold wrap32
  omega
theorem i32_eq {a b : Int} (h : a = b) : Ending.returned (.int .i32 a) = Ending.returned (.int .i32 b) := by rw [h]
set_option maxRecDepth 100000 in
set_option maxHeartbeats 800000 in
theorem wrap_any (w : World) (t v : Int) : Calls Tryd.prog 64 #[.int .i64 t, .int .i64 v] w fun e w' => e = .returned (.int .i32 (wrapF t v)) ∧ w = w' := by
  by_cases h : t = 1
  · subst h
    have hb := fun W => bits_any W 1
    have HB := Lib.hid hb
    have hm := mod_mid 65536 v (by decide) (by decide)
    have HM := Lib.hid hm
    have H1 := Lib.hid (wrap16_big v)
    have H2 := Lib.hid (wrap16_small v)
    clear hb hm
    go_enter Tryd.func64, Tryd.ntmps64
    go_wp2_with (go_at_call 63; refine (HB.out _).mono ?_; rintro e w' ⟨rfl, rfl⟩; rw [show bitsF 1 = 16 from rfl])
    · have h : 32768 ≤ (wrap64 (v.tmod 65536 + 65536)).tmod 65536 := by assumption
      go_ret
      rw [HM.out] at h
      exact ⟨i32_eq (by rw [HM.out]; exact H1.out h), rfl⟩
    · have h : (wrap64 (v.tmod 65536 + 65536)).tmod 65536 < 32768 := by assumption
      go_ret
      rw [HM.out] at h
      exact ⟨i32_eq (by rw [HM.out]; exact H2.out h), rfl⟩
  · have hb := fun W => bits_any W t
    have e1 : bitsF t = 32 := by simp [bitsF, h]
    have e2 : wrapF t v = wrap32 v := by simp [wrapF, h]
    rw [e1] at hb
    rw [e2]
    have HB := Lib.hid hb
    have hm := mod_mid 4294967296 v (by decide) (by decide)
    have HM := Lib.hid hm
    clear hb hm e1 e2 h
    go_enter Tryd.func64, Tryd.ntmps64
    go_wp2_with (go_at_call 63; refine (HB.out _).mono ?_; rintro e w' ⟨rfl, rfl⟩)
    · go_ret
      exact ⟨i32_eq (by rw [HM.out]; exact wrap32_big v), rfl⟩
    · go_ret
      exact ⟨i32_eq (by rw [HM.out]; exact wrap32_small v), rfl⟩
/-- An operator of one value. -/
def unF (op t a : Int) : Int := if op = 4 then wrapF t (-a) else if op = 5 then wrap32 (-a - 1) else if op = 6 then (if a = 0 then 1 else 0) else if op = 7 then wrapF 1 a else a
set_option maxRecDepth 100000 in
set_option maxHeartbeats 800000 in
theorem un_any (w : World) (op t a : Int) (h0 : -2147483648 ≤ a) (h1 : a ≤ 2147483647) : Calls Tryd.prog 47 #[.int .i64 op, .int .i64 t, .int .i32 a] w fun e w' => e = .returned (.int .i32 (unF op t a)) ∧ w = w' := by
  by_cases h4 : op = 4
  · subst h4
    rw [show unF 4 t a = wrapF t (-a) by simp [unF]]
    go_enter Tryd.func47, Tryd.ntmps47
    go_wp2_with (go_at_call 64; refine (wrap_any _ t (-a)).mono ?_; rintro e w' ⟨rfl, rfl⟩)
    go_ret
    exact ⟨rfl, rfl⟩
  by_cases h5 : op = 5
  · subst h5
    rw [show unF 5 t a = wrap32 (-a - 1) by simp [unF]]
    go_enter Tryd.func47, Tryd.ntmps47
    go_wp2_with fail
    go_ret
    exact ⟨i32_eq (by unfold wrap32; omega), rfl⟩
  by_cases h6 : op = 6
  · subst h6
    by_cases ha : a = 0
    · subst ha
      rw [show unF 6 t 0 = 1 by simp [unF]]
      go_enter Tryd.func47, Tryd.ntmps47
      go_wp2_with fail
      go_ret
      exact ⟨rfl, rfl⟩
    · have t1 : (a == 0) = false := by simpa using ha
      have e : unF 6 t a = 0 := by simp [unF, ha]
      rw [e]
      clear e ha
      go_enter Tryd.func47, Tryd.ntmps47
      go_wp2_with fail
      go_ret
      exact ⟨rfl, rfl⟩
  by_cases h7 : op = 7
  · subst h7
    rw [show unF 7 t a = wrapF 1 a by simp [unF]]
    go_enter Tryd.func47, Tryd.ntmps47
    go_wp2_with (go_at_call 64; refine (wrap_any _ 1 a).mono ?_; rintro e w' ⟨rfl, rfl⟩)
    go_ret
    exact ⟨rfl, rfl⟩
  have t4 : (op == 4) = false := by simpa using h4
  have t5 : (op == 5) = false := by simpa using h5
  have t6 : (op == 6) = false := by simpa using h6
  have t7 : (op == 7) = false := by simpa using h7
  have e : unF op t a = a := by simp [unF, h4, h5, h6, h7]
  rw [e]
  clear e h4 h5 h6 h7
  go_enter Tryd.func47, Tryd.ntmps47
  go_wp2_with fail
  go_ret
  exact ⟨rfl, rfl⟩
end Go.Proofs.YthkiajbgdamjgaaDoor

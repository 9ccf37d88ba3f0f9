/- The document's arithmetic: bit by bit. Conditions: numbers of 32 bits. -/
import Derived.Test.YthkiajbgdamjgaaDoorArA
namespace Go.Proofs.YthkiajbgdamjgaaDoor
open Go.RowKit
set_option linter.unusedVariables false

theorem two_32 (w : World) : Calls Tryd.prog 65 #[.int .i64 32] w fun e w' => e = .returned (.int .i64 4294967296) ∧ w' = w :=
  (twop_any w 32 (by decide)).mono fun e w' h => by
    obtain ⟨rfl, rfl⟩ := h
    exact ⟨by rw [show tw 32 = 4294967296 by simp [tw]], rfl⟩
theorem two_q (w : World) (n : Nat) (hn : n ≤ 32) : Calls Tryd.prog 65 #[.int .i64 (n : Int)] w fun e w' => e = .returned (.int .i64 (tw n)) ∧ w' = w :=
  (twop_any w n hn).mono fun e w' h => ⟨h.1, h.2.symm⟩

/-- A bit of a number. -/
def bX (a : Int) (k : Nat) : Int := (wrap64 (((wrap64 (a.tmod 4294967296 + 4294967296)).tmod 4294967296).tdiv (tw k))).tmod 2
def bitF (op a b : Int) (k : Nat) : Int := if op = 22 then wrap64 (bX a k * bX b k) else if op = 24 then max (bX a k) (bX b k) else (wrap64 (bX a k + bX b k)).tmod 2
/-- The bits of two numbers, put together up to a place. -/
def bitsUp (op a b : Int) : Nat → Int
  | 0 => 0
  | k + 1 => wrap64 (bitsUp op a b k + wrap64 (bitF op a b k * tw k))
theorem bit22 (a b : Int) (k : Nat) : bitF 22 a b k = wrap64 (bX a k * bX b k) := by simp [bitF]
theorem bit24 (a b : Int) (k : Nat) : bitF 24 a b k = max (bX a k) (bX b k) := by simp [bitF]
theorem bitO (op a b : Int) (k : Nat) (h : op ≠ 22) (h' : op ≠ 24) : bitF op a b k = (wrap64 (bX a k + bX b k)).tmod 2 := by simp [bitF, h, h']
theorem i64_eq {a b : Int} (h : a = b) : Value.int .i64 a = Value.int .i64 b := by rw [h]

set_option maxRecDepth 100000 in
set_option maxHeartbeats 1600000 in
theorem bitwise_22 (w : World) (a b : Int) :
    Calls Tryd.prog 67 #[.int .i64 22, .int .i64 a, .int .i64 b] w fun e w' => e = .returned (.int .i64 (bitsUp 22 a b 32)) ∧ Below w.heap.size w w' := by
  go_enter Tryd.func67, Tryd.ntmps67
  go_wp2_with fail
  go_loopw [7, 8] (fun v i wr => ∃ k : Nat, k ≤ 32 ∧ i = .int .i64 k ∧ v = .int .i64 (bitsUp 22 a b k) ∧ Below w.heap.size w wr) (fun _ i _ => 32 - (intOf i).toNat)
  case atStart => exact ⟨0, by omega, rfl, rfl, Below.refl _ _⟩
  case round =>
    obtain ⟨k, hk, rfl, rfl, hbr⟩ := hrel
    by_cases hlt : k < 32
    · have b := tw_bd k
      have b1 := b.1
      have b2 := b.2 (by omega)
      clear b
      have E := Lib.hid (bit22 a b k)
      go_wp2_with fail
      go_quiet ((first | (go_at_call 65; first | (with_reducible exact Calls.quiet_of_same (two_32 _)) | (with_reducible exact Calls.quiet_of_same (two_q _ k hk)))))
      go_wp2_with fail
      refine (two_q _ k hk).mono ?_
      rintro e w2 ⟨rfl, rfl⟩
      go_wp2_with fail
      go_roundw
      case rel =>
        refine ⟨k + 1, by omega, by go_num, i64_eq ?_, hbr.trans ⟨rfl, rfl, rfl, Nat.le_refl _, fun _ _ => rfl⟩⟩
        simp only [bitsUp, E.out, bX]
      case measure => simp [intOf]; omega
    · have e : k = 32 := by omega
      subst e
      go_wp2_with fail
      go_ret
      exact ⟨rfl, hbr⟩

set_option maxRecDepth 100000 in
set_option maxHeartbeats 1600000 in
theorem bitwise_24 (w : World) (a b : Int) :
    Calls Tryd.prog 67 #[.int .i64 24, .int .i64 a, .int .i64 b] w fun e w' => e = .returned (.int .i64 (bitsUp 24 a b 32)) ∧ Below w.heap.size w w' := by
  go_enter Tryd.func67, Tryd.ntmps67
  go_wp2_with fail
  go_loopw [7, 8] (fun v i wr => ∃ k : Nat, k ≤ 32 ∧ i = .int .i64 k ∧ v = .int .i64 (bitsUp 24 a b k) ∧ Below w.heap.size w wr) (fun _ i _ => 32 - (intOf i).toNat)
  case atStart => exact ⟨0, by omega, rfl, rfl, Below.refl _ _⟩
  case round =>
    obtain ⟨k, hk, rfl, rfl, hbr⟩ := hrel
    by_cases hlt : k < 32
    · have b := tw_bd k
      have b1 := b.1
      have b2 := b.2 (by omega)
      clear b
      have E := Lib.hid (bit24 a b k)
      go_wp2_with fail
      go_quiet ((first | (go_at_call 65; first | (with_reducible exact Calls.quiet_of_same (two_32 _)) | (with_reducible exact Calls.quiet_of_same (two_q _ k hk)))))
      go_wp2_with fail
      all_goals
        refine (two_q _ k hk).mono ?_
        rintro e w2 ⟨rfl, rfl⟩
        go_wp2_with fail
        go_roundw
        case rel =>
          refine ⟨k + 1, by omega, by go_num, i64_eq ?_, hbr.trans ⟨rfl, rfl, rfl, Nat.le_refl _, fun _ _ => rfl⟩⟩
          simp only [bitsUp, E.out, bX]
          first | (rw [Int.max_eq_right] <;> omega) | (rw [Int.max_eq_left] <;> omega)
        case measure => simp [intOf]; omega
    · have e : k = 32 := by omega
      subst e
      go_wp2_with fail
      go_ret
      exact ⟨rfl, hbr⟩

set_option maxRecDepth 100000 in
set_option maxHeartbeats 1600000 in
theorem bitwise_o (w : World) (op a b : Int) (h : op ≠ 22) (h2 : op ≠ 24) :
    Calls Tryd.prog 67 #[.int .i64 op, .int .i64 a, .int .i64 b] w fun e w' => e = .returned (.int .i64 (bitsUp op a b 32)) ∧ Below w.heap.size w w' := by
  have H := Lib.hid h
  have H2 := Lib.hid h2
  have t1 : (op == 22) = false := by simpa using h
  have t2 : (op == 24) = false := by simpa using h2
  clear h h2
  go_enter Tryd.func67, Tryd.ntmps67
  go_wp2_with fail
  go_loopw [7, 8] (fun v i wr => ∃ k : Nat, k ≤ 32 ∧ i = .int .i64 k ∧ v = .int .i64 (bitsUp op a b k) ∧ Below w.heap.size w wr) (fun _ i _ => 32 - (intOf i).toNat)
  case atStart => exact ⟨0, by omega, rfl, rfl, Below.refl _ _⟩
  case round =>
    obtain ⟨k, hk, rfl, rfl, hbr⟩ := hrel
    by_cases hlt : k < 32
    · have b := tw_bd k
      have b1 := b.1
      have b2 := b.2 (by omega)
      clear b
      have E := Lib.hid (bitO op a b k H.out H2.out)
      go_wp2_with fail
      go_quiet ((first | (go_at_call 65; first | (with_reducible exact Calls.quiet_of_same (two_32 _)) | (with_reducible exact Calls.quiet_of_same (two_q _ k hk)))))
      go_wp2_with fail
      refine (two_q _ k hk).mono ?_
      rintro e w2 ⟨rfl, rfl⟩
      go_wp2_with fail
      go_roundw
      case rel =>
        refine ⟨k + 1, by omega, by go_num, i64_eq ?_, hbr.trans ⟨rfl, rfl, rfl, Nat.le_refl _, fun _ _ => rfl⟩⟩
        simp only [bitsUp, E.out, bX]
      case measure => simp [intOf]; omega
    · have e : k = 32 := by omega
      subst e
      go_wp2_with fail
      go_ret
      exact ⟨rfl, hbr⟩

theorem bitwise_any (w : World) (op a b : Int) :
    Calls Tryd.prog 67 #[.int .i64 op, .int .i64 a, .int .i64 b] w fun e w' => e = .returned (.int .i64 (bitsUp op a b 32)) ∧ Below w.heap.size w w' := by
  by_cases h : op = 22
  · subst h
    exact bitwise_22 w a b
  by_cases h2 : op = 24
  · subst h2
    exact bitwise_24 w a b
  exact bitwise_o w op a b h h2
end Go.Proofs.YthkiajbgdamjgaaDoor

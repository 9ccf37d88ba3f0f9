/- The reference's digits: the decimal numeral. Conditions: a number of 32 bits. -/
import Derived.Test.YthkiajbgdamjgaaDoorMem
import Derived.Test.YthkiajbgdamjgaaDoorShelf
import Derived.Lib.ItoaMem
import Derived.Laws.IdiomStrings
namespace Go.Proofs.YthkiajbgdamjgaaDoor
open Go.RowKit

theorem ba_append (a b : List UInt8) : (⟨a.toArray⟩ : ByteArray) ++ ⟨b.toArray⟩ = ⟨(a ++ b).toArray⟩ := by
  apply ByteArray.ext
  simp
/-- The last digit. -/
def dgt (u : Nat) : UInt8 := UInt8.ofNat (48 + u % 10)
theorem conv_digit (w : World) (u : Nat) :
    (convert 103 9 (.slice (some ⟨w.heap.size, 0, none⟩) 1 1)).run Tryd.prog (w.alloc (.cells #[.int .u8 (48 + (u : Int) % 10)] 5)) = .ok (.string ⟨#[dgt u]⟩) (w.alloc (.cells #[.int .u8 (48 + (u : Int) % 10)] 5)) := by
  have h := run_convert_bytes_back (P := Tryd.prog) (w.alloc (.cells #[.int .u8 (48 + (u : Int) % 10)] 5)) 103 9 5 ⟨w.heap.size, 0, none⟩ 1 [dgt u] Tryd.underlying103 Tryd.underlying5 Tryd.underlying9 (by
    intro j hj
    have hj0 : j = 0 := by simp at hj; omega
    subst hj0
    have e : ((dgt u).toNat : Int) = 48 + (u : Int) % 10 := by
      unfold dgt
      rw [UInt8.toNat_ofNat']
      omega
    simp only [List.getElem_cons_zero, e]
    exact (Blk.new w 5 #[.int .u8 (48 + (u : Int) % 10)]).cell 0)
  exact h

set_option maxRecDepth 100000 in
set_option maxHeartbeats 800000 in
theorem digits_small (u : Nat) (w : World) (hk : u < 10) :
    Calls Tryd.prog 53 #[.int .i64 (u : Int)] w fun e w' => e = .returned (.string ⟨(Lib.decDigits u).toArray⟩) ∧ Below w.heap.size w w' := by
  have hd := conv_digit w u
  have e1 : Lib.decDigits u = [dgt u] := by unfold dgt; rw [Lib.decDigits_one hk, show u % 10 = u by omega]
  have E1 := Lib.hid e1
  clear e1
  go_enter Tryd.func53, Tryd.ntmps53
  go_wp2_with fail
  go_ret
  exact ⟨by rw [E1.out]; rfl, (Below.refl _ _).alloc (Nat.le_refl _) _⟩

theorem dec_len (k : Nat) : ∀ u : Nat, u < 10 ^ (k + 1) → (Lib.decDigits u).length ≤ k + 1 := by
  induction k with
  | zero => intro u hu; rw [Lib.decDigits_one (by omega)]; simp
  | succ k ih =>
    intro u hu
    by_cases h : u < 10
    · rw [Lib.decDigits_one h]; simp
    · rw [Lib.decDigits, dif_neg h]
      have := ih (u / 10) (by rw [Nat.pow_succ] at hu; omega)
      simp
      omega

set_option maxRecDepth 100000 in
set_option maxHeartbeats 800000 in
theorem digits_nat (k : Nat) : ∀ (u : Nat) (w : World), k ≤ 20 → u < 10 ^ (k + 1) → u ≤ 4294967296 →
    Calls Tryd.prog 53 #[.int .i64 (u : Int)] w fun e w' => e = .returned (.string ⟨(Lib.decDigits u).toArray⟩) ∧ Below w.heap.size w w' := by
  induction k with
  | zero =>
    intro u w _ hk hb
    exact digits_small u w (by omega)
  | succ k ih =>
    intro u w hk20 hk hb
    by_cases h10 : u < 10
    · exact digits_small u w h10
    have hd := conv_digit w u
    have hq : u / 10 < 10 ^ (k + 1) := by rw [Nat.pow_succ] at hk; omega
    have IH := Lib.hid (fun W => ih (u / 10) W (by omega) hq (by omega))
    have hc : ((u / 10 : Nat) : Int) = (u : Int) / 10 := by omega
    have HC := Lib.hid hc
    have hfin : Lib.decDigits u = Lib.decDigits (u / 10) ++ [dgt u] := by unfold dgt; rw [Lib.decDigits, dif_neg h10]
    have HF := Lib.hid hfin
    have hln := dec_len k (u / 10) hq
    clear ih hk hq hc hfin
    go_enter Tryd.func53, Tryd.ntmps53
    go_wp2_with fail
    rw [← HC.out]
    refine (IH.out _).mono ?_
    rintro e w1 ⟨rfl, hb1⟩
    go_wp2_with fail
    go_ret
    refine ⟨?_, ((Below.refl _ _).alloc (Nat.le_refl _) _).trans (hb1.mono (by simp))⟩
    rw [HF.out, ← ba_append]
    rfl

theorem itoa_len {n : Int} (h0 : -4294967296 ≤ n) (h1 : n ≤ 4294967296) : (Lib.itoa n).length ≤ 12 := by
  unfold Lib.itoa
  split
  · have := dec_len 10 n.natAbs (by omega); simp; omega
  · have := dec_len 10 n.toNat (by omega); omega

set_option maxRecDepth 100000 in
set_option maxHeartbeats 800000 in
theorem digits_any (n : Int) (w : World) (h0 : -4294967296 ≤ n) (h1 : n ≤ 4294967296) :
    Calls Tryd.prog 53 #[.int .i64 n] w fun e w' => e = .returned (.string ⟨(Lib.itoa n).toArray⟩) ∧ Below w.heap.size w w' := by
  by_cases hn : 0 ≤ n
  · obtain ⟨u, rfl⟩ := Int.eq_ofNat_of_zero_le hn
    rw [Lib.itoa_nonneg]
    exact digits_nat 10 u w (by omega) (by omega) (by omega)
  · obtain ⟨u, hu⟩ : ∃ u : Nat, n = -(u : Int) := ⟨n.natAbs, by omega⟩
    subst hu
    have hu1 : 1 ≤ u := by omega
    have hfin := Lib.itoa_neg u hu1
    have HF := Lib.hid hfin
    have hln := dec_len 10 u (by omega)
    have IH := Lib.hid (fun W => digits_nat 10 u W (by omega) (by omega) (by omega))
    have hlt : (-(u : Int)) < 0 := by omega
    clear hfin hn
    go_enter Tryd.func53, Tryd.ntmps53
    go_wp2_with fail
    refine (IH.out _).mono ?_
    rintro e w1 ⟨rfl, hb1⟩
    go_wp2_with fail
    go_ret
    refine ⟨?_, hb1⟩
    rw [HF.out, show (45 :: Lib.decDigits u) = [45] ++ Lib.decDigits u from rfl, ← ba_append]
    rfl
end Go.Proofs.YthkiajbgdamjgaaDoor

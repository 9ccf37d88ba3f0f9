/- live.Uses: what an instruction reads, and makes. No condition. -/
import Derived.Test.YtfmkfmcplffhdaaLvA
import Derived.IntWalk
namespace Go.Proofs.Ytfmkfmcplffhdaa
set_option linter.unusedVariables false
open Go.RowKit
attribute [local irreducible] Blk

set_option maxRecDepth 100000 in
theorem none_any (w : World) (i : I9) : Calls Try.prog 38 #[.agg i.arr] w fun e w' => e = .returned (.slice none 0 0) ∧ Below w.heap.size w w' := by
  go_enter Try.func38, Try.ntmps38
  go_wp2_with fail
  go_ret
  exact ⟨rfl, (Below.refl _ _).alloc (Nat.le_refl _) _⟩
set_option maxRecDepth 100000 in
theorem one_any (w : World) (i : I9) : Calls Try.prog 39 #[.agg i.arr] w fun e w' => ∃ g, e = .returned (.slice (some ⟨g, 0, none⟩) 1 1) ∧ w.heap.size ≤ g ∧ Blk w' g 3 #[.int .i64 i.a] ∧ Below w.heap.size w w' := by
  go_enter Try.func39, Try.ntmps39
  unfold I9.arr
  go_wp2_with fail
  go_ret
  exact ⟨_, rfl, by omega, Blk.newAt (by simp), ((Below.refl _ _).alloc (Nat.le_refl _) _).alloc (by simp) _⟩
set_option maxRecDepth 100000 in
theorem two_any (w : World) (i : I9) : Calls Try.prog 40 #[.agg i.arr] w fun e w' => ∃ g, e = .returned (.slice (some ⟨g, 0, none⟩) 2 2) ∧ w.heap.size ≤ g ∧ Blk w' g 3 #[.int .i64 i.a, .int .i64 i.b] ∧ Below w.heap.size w w' := by
  go_enter Try.func40, Try.ntmps40
  unfold I9.arr
  go_wp2_with fail
  go_ret
  exact ⟨_, rfl, by omega, Blk.newAt (by simp), ((Below.refl _ _).alloc (Nat.le_refl _) _).alloc (by simp) _⟩
/-- The function whose value a box holds. -/
def opF (k : Nat) : Nat := if k = 0 then 38 else if k = 1 then 39 else 40
def Row1 (w : World) (xs : List Int) (e : Ending) (w' : World) : Prop := ∃ v, e = .returned v ∧ w'.ownsRow w.heap.size 3 1 v xs.length (iCells xs) ∧ Below w.heap.size w w'
set_option maxRecDepth 100000 in
theorem as1_any (w : World) (i : I9) (B k : Nat) (hk : k < 3) (hB : w.cell? ⟨B, 0, none⟩ = some (.func (.func (opF k)) #[] #[])) (hl : B < w.heap.size) :
    Calls Try.prog 47 #[.agg i.arr, .pointer (some ⟨B, 0, none⟩)] w (Row1 w (rawU k i.a i.b)) := by
  have hb := Nat.le_refl w.heap.size
  have hk3 : k = 0 ∨ k = 1 ∨ k = 2 := by omega
  rcases hk3 with rfl | rfl | rfl
  · simp only [opF, if_true] at hB
    go_enter Try.func47, Try.ntmps47
    unfold I9.arr
    go_wp2_with (go_at_call 38; refine (none_any _ i).mono ?_; rintro e w1 ⟨rfl, hb1⟩)
    go_ret
    exact ⟨_, rfl, World.ownsRow_nil _ _ _ _, ((Below.refl _ _).alloc (Nat.le_refl _) _).trans (hb1.mono (by simp))⟩
  · simp only [opF] at hB
    go_enter Try.func47, Try.ntmps47
    unfold I9.arr
    go_wp2_with (go_at_call 39; refine (one_any _ i).mono ?_; rintro e w1 ⟨g, rfl, hg, hB1, hb1⟩)
    go_ret
    exact ⟨_, rfl, own_of_blk hB1 (by simp at hg; omega) (by unfold maxLen; omega) rfl rfl, ((Below.refl _ _).alloc (Nat.le_refl _) _).trans (hb1.mono (by simp))⟩
  · simp only [opF] at hB
    go_enter Try.func47, Try.ntmps47
    unfold I9.arr
    go_wp2_with (go_at_call 40; refine (two_any _ i).mono ?_; rintro e w1 ⟨g, rfl, hg, hB1, hb1⟩)
    go_ret
    exact ⟨_, rfl, own_of_blk hB1 (by simp at hg; omega) (by unfold maxLen; omega) rfl rfl, ((Below.refl _ _).alloc (Nat.le_refl _) _).trans (hb1.mono (by simp))⟩

section
variable {P : Program}
theorem run_look_hit (t kt e : TypeId) (ht : P.underlying t = some (.map kt e)) (hk : P.underlying kt = some (.int .i64)) (w : World) (k : Nat) (es : Array MapEntry) (c : Nat) (hg : w.heap[k]? = some (.map es c)) (n : Int) (i : Nat) (v : Value)
    (h : Instr.findNow (.int .i64) (.int .i64 n) es.toList 0 = some (some (i, v))) :
    (Instr.lookup t (.map (some k)) (.int .i64 n) true).run P w = .ok (.tuple #[v, .bool true]) w := by
  have e1 := run_checkKey_int (P := P) kt .i64 hk es.isEmpty 9999 n w
  simp [Instr.lookup, run_underlying ht, MapKept.run_getObj_map hg, e1, Instr.findKey, run_underlying hk, h]
theorem run_look_miss (t kt e : TypeId) (ht : P.underlying t = some (.map kt e)) (hk : P.underlying kt = some (.int .i64)) (w : World) (k : Nat) (es : Array MapEntry) (c : Nat) (hg : w.heap[k]? = some (.map es c)) (n : Int) (z : Value)
    (hz : (zeroValue e).run P w = .ok z w) (h : Instr.findNow (.int .i64) (.int .i64 n) es.toList 0 = some none) :
    (Instr.lookup t (.map (some k)) (.int .i64 n) true).run P w = .ok (.tuple #[z, .bool false]) w := by
  have e1 := run_checkKey_int (P := P) kt .i64 hk es.isEmpty 9999 n w
  simp [Instr.lookup, run_underlying ht, MapKept.run_getObj_map hg, e1, Instr.findKey, run_underlying hk, h, hz]
end
theorem kind_none {n : Int} (h : kindU n = none) : n ≠ 1 ∧ n ≠ 5 ∧ n ≠ 9 ∧ n ≠ 13 ∧ n ≠ 2 ∧ n ≠ 4 ∧ n ≠ 7 ∧ n ≠ 3 ∧ n ≠ 6 ∧ n ≠ 10 ∧ n ≠ 11 ∧ n ≠ 14 ∧ n ≠ 16 ∧ n ≠ 8 := by
  unfold kindU at h
  split at h
  · cases h
  split at h
  · cases h
  split at h
  · cases h
  split at h
  · cases h
  split at h
  · cases h
  omega
theorem kind_some {n : Int} {k : Nat} {mk : Bool} (h : kindU n = some (k, mk)) : k < 3 ∧ ∀ N, ∃ i, Instr.findNow (.int .i64) (.int .i64 n) (useES N).toList 0 = some (some (i, .agg #[fnU N k, .bool mk])) := by
  unfold kindU at h
  split at h
  · rename_i hn
    simp only [Option.some.injEq, Prod.mk.injEq] at h
    obtain ⟨rfl, rfl⟩ := h
    refine ⟨by omega, fun N => ?_⟩
    rcases hn with rfl | rfl | rfl | rfl <;> exact ⟨_, rfl⟩
  split at h
  · rename_i hn
    simp only [Option.some.injEq, Prod.mk.injEq] at h
    obtain ⟨rfl, rfl⟩ := h
    refine ⟨by omega, fun N => ?_⟩
    rcases hn with rfl | rfl | rfl <;> exact ⟨_, rfl⟩
  split at h
  · rename_i hn
    simp only [Option.some.injEq, Prod.mk.injEq] at h
    obtain ⟨rfl, rfl⟩ := h
    subst hn
    exact ⟨by omega, fun N => ⟨_, rfl⟩⟩
  split at h
  · rename_i hn
    simp only [Option.some.injEq, Prod.mk.injEq] at h
    obtain ⟨rfl, rfl⟩ := h
    refine ⟨by omega, fun N => ?_⟩
    rcases hn with rfl | rfl | rfl | rfl | rfl <;> exact ⟨_, rfl⟩
  split at h
  · rename_i hn
    simp only [Option.some.injEq, Prod.mk.injEq] at h
    obtain ⟨rfl, rfl⟩ := h
    subst hn
    exact ⟨by omega, fun N => ⟨_, rfl⟩⟩
  cases h
theorem find_none {n : Int} (h : kindU n = none) (N : Nat) : Instr.findNow (.int .i64) (.int .i64 n) (useES N).toList 0 = some none := by
  obtain ⟨h1, h2, h3, h4, h5, h6, h7, h8, h9, h10, h11, h12, h13, h14⟩ := kind_none h
  have f : ∀ m : Int, n ≠ m → (n == m) = false := fun m hm => by simpa using hm
  have g : ∀ m : Int, n ≠ m → (m == n) = false := fun m hm => by simpa using Ne.symm hm
  simp [useES, rowU, Instr.findNow, Instr.sameNow, f _ h1, f _ h2, f _ h3, f _ h4, f _ h5, f _ h6, f _ h7, f _ h8, f _ h9, f _ h10, f _ h11, f _ h12, f _ h13, f _ h14]
end Go.Proofs.Ytfmkfmcplffhdaa

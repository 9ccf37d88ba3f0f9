/- live.Spans: what is known of values, and the span of each. Conditions: none but sizes. -/
import Derived.Test.YtfmkfmcplffhdaaLvF
import Derived.Test.YtfmkfmcplffhdaaLvK
namespace Go.Proofs.Ytfmkfmcplffhdaa
set_option linter.unusedVariables false
open Go.RowKit Go.Shelf
attribute [local go_sem] Oper.semAt_some
attribute [local irreducible] Blk

structure Sn4 where
  made : Nat
  read : Nat
  isMade : Bool
  isIn : Bool
  deriving DecidableEq
def Sn4.arr (s : Sn4) : Array Value := #[.int .i64 (s.made : Int), .int .i64 (s.read : Int), .bool s.isMade, .bool s.isIn]
def spanS (s : Sn4) (v : Int) : Sp3 := ⟨v, if s.isMade then s.made else s.read, if s.isMade && !s.isIn then s.made else s.read⟩
def sn0 : Sn4 := ⟨0, 0, false, false⟩

set_option maxRecDepth 100000 in
theorem span_any (w : World) (s : Sn4) (v : Int) :
    Calls Try.prog 30 #[.agg s.arr, .int .i64 v] w (SpanP w (spanS s v)) := by
  obtain ⟨m, r, im, ii⟩ := s
  cases im <;> cases ii
  · go_enter Try.func30, Try.ntmps30
    unfold Sn4.arr
    go_wp2_with fail
    refine bodyPost_ret (results_cell_row Try.results30 _ _ (w.heap.size + 1) 54 (spanS ⟨m, r, false, false⟩ v).arr (0, 0) _ (by rfl) ?_ Try.underlying54 (by rfl) (by kernel_rfl)) rfl ?_
    · exact Blk.heap (Blk.newAt (by simp))
    exact ⟨rfl, ((Below.refl _ _).alloc (Nat.le_refl _) _).alloc (by simp) _⟩
  · go_enter Try.func30, Try.ntmps30
    unfold Sn4.arr
    go_wp2_with fail
    refine bodyPost_ret (results_cell_row Try.results30 _ _ (w.heap.size + 1) 54 (spanS ⟨m, r, false, true⟩ v).arr (0, 0) _ (by rfl) ?_ Try.underlying54 (by rfl) (by kernel_rfl)) rfl ?_
    · exact Blk.heap (Blk.newAt (by simp))
    exact ⟨rfl, ((Below.refl _ _).alloc (Nat.le_refl _) _).alloc (by simp) _⟩
  · go_enter Try.func30, Try.ntmps30
    unfold Sn4.arr
    go_wp2_with fail
    refine bodyPost_ret (results_cell_row Try.results30 _ _ (w.heap.size + 1) 54 (spanS ⟨m, r, true, false⟩ v).arr (0, 0) _ (by rfl) ?_ Try.underlying54 (by rfl) (by kernel_rfl)) rfl ?_
    · exact Blk.heap (Blk.newAt (by simp))
    exact ⟨rfl, ((Below.refl _ _).alloc (Nat.le_refl _) _).alloc (by simp) _⟩
  · go_enter Try.func30, Try.ntmps30
    unfold Sn4.arr
    go_wp2_with fail
    refine bodyPost_ret (results_cell_row Try.results30 _ _ (w.heap.size + 1) 54 (spanS ⟨m, r, true, true⟩ v).arr (0, 0) _ (by rfl) ?_ Try.underlying54 (by rfl) (by kernel_rfl)) rfl ?_
    · exact Blk.heap (Blk.newAt (by simp))
    exact ⟨rfl, ((Below.refl _ _).alloc (Nat.le_refl _) _).alloc (by simp) _⟩
end Go.Proofs.Ytfmkfmcplffhdaa

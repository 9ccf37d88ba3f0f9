/- The function fresh of package lower: a new register, and the instruction that sets it. -/
import Derived.Test.YtekciedoldiieaaLowAdd
namespace Go.Proofs.Ytekciedoldiieaa
open Go.RowKit

set_option maxRecDepth 100000 in
set_option maxHeartbeats 3200000 in
theorem fresh_any (w : World) (g base : Nat) (av : Value) (r s : Int) (l : List I9) (x0 x1 x2 x3 x4 x5 x6 x7 x8 : Int)
    (hl : Low w g base av r s l) (hn : l.length < 1000000000000) (hr0 : 0 ≤ r) (hr1 : r < 1000000000000000) :
    Calls Try.prog 23 #[.pointer (some ⟨g, 0, none⟩), .agg #[.int .i64 x0, .int .i64 x1, .int .i64 x2, .int .i64 x3, .int .i64 x4, .int .i64 x5, .int .i64 x6, .int .i64 x7, .int .i64 x8]] w fun e w' =>
      e = .returned (.int .i64 r) ∧ ∃ av', Low w' g base av' (r + 1) s (l ++ [⟨x0, x1, x2, r, x4, x5, x6, x7, s⟩]) ∧ LS w w' g av av' := by
  have hown' := hl.blk.ne_own hl.own (by decide)
  have hglt := hl.blk.lt
  have l0 := hl.blk.cell 0
  have l1 := hl.blk.cell 1
  have l2 := hl.blk.cell 2
  have f1 := hl.blk.frozen 1
  simp at l0 l1 l2
  have hsz : w.heap.size ≠ g := by omega
  go_enter Try.func23, Try.ntmps23
  go_wp2_with fail
  refine (add_one _ g (w.heap.size + 1) base av (r + 1) s l _ _ _ _ _ _ _ _ _ _ (((hl.setRegs (r + 1)).alloc _).alloc _) (Blk.newAt (by simp)) hn).mono ?_
  rintro e w1 ⟨rfl, av', hl', hs'⟩
  have hb : Blk w1 w.heap.size 28 #[.int .i64 x0, .int .i64 x1, .int .i64 x2, .int .i64 r, .int .i64 x4, .int .i64 x5, .int .i64 x6, .int .i64 x7, .int .i64 x8] :=
    hs'.blk (((hl.setRegs (r + 1)).alloc _).alloc _) ((Blk.newAt (by simp)).alloc _) (by decide) (.inr (fun hc => by have := hl.own.lt _ hc; omega))
  have b3 := hb.cell 3
  simp at b3
  go_wp2_with fail
  go_ret
  exact ⟨rfl, av', hl', (((LS.refl w g av).setG 1 (.int .i64 (r + 1))).alloc _ |>.alloc _).trans hs'⟩
end Go.Proofs.Ytekciedoldiieaa

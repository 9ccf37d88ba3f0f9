/- The reference's chooser: add. Conditions: fewer than 10^12 instructions. -/
import Derived.Test.YthkiajbgdamjgaaDoorRefA
namespace Go.Proofs.YthkiajbgdamjgaaDoor
open Go.RowKit

set_option maxRecDepth 100000 in
set_option maxHeartbeats 3200000 in
theorem radd_any (w : World) (g base : Nat) (A : Option Addr) (hs : List HV) (hc : Nat) (bs : Int) (ov : Value) (out : List C5) (op a b d n : Int)
    (hl : RCho w g base A hs hc bs ov out) (hn : out.length + 1 < 1000000000000) :
    Calls Tryd.prog 41 #[.pointer (some ⟨g, 0, none⟩), .int .i64 op, .int .u8 a, .int .u8 b, .int .u8 d, .int .i64 n] w fun e w' => e = .returned (.tuple #[]) ∧
      ∃ ov', RCho w' g base A hs hc bs ov' (out ++ [⟨IntKind.u8.wrap op, a, b, d, wrap32 n⟩]) ∧ CS w w' g ov ov' := by
  obtain ⟨hblk, hown, hhom, hbase, hbg, hmany⟩ := hl
  have hown' := hblk.ne_own hown (by decide)
  have hglt := hblk.lt
  have l2 := hblk.cell 2
  have f2 := hblk.frozen 2
  simp at l2
  have hsz : w.heap.size ≠ g := by omega
  obtain ⟨i0, hi0, hz0, hz1, hz2⟩ := info_parts infoCode
  go_enter Tryd.func41, Tryd.ntmps41
  go_wp2_with fail
  go_region_law
    (first | (rw [if_pos (by rfl)]; go_simp; go_at_call 49; refine (low_any _ n).mono ?_; rintro e w1 ⟨rfl, rfl⟩) | (refine step_append_lies _ (by rfl) _ _ _ (by rfl) base 49 i0 _ 5 8 Tryd.underlying28 hi0 hz0 hz1 hz2 rfl (by omega) ov out.length (codeCells out) (by rfl) (((hown.alloc _)).drew) ⟨w.heap.size, 0, none⟩ 1 1 (codeCells [⟨IntKind.u8.wrap op, a, b, d, wrap32 n⟩]) (by rfl) (by rfl) (World.news_of_block (cs := (codeCells [⟨IntKind.u8.wrap op, a, b, d, wrap32 n⟩]).toArray) (t := 49) (fr := (0, 0)) (heap_alloc_new w _)) (codeCells_one _) (by omega) (by unfold maxLen; omega) (by omega) (by simp; omega) (w.heap.size + 1) (by simp) ?_; intro gg cap w1 hown1 hgrow hat hlt; have k0 : w1.cell? ⟨g, 2, none⟩ = some ov := (hgrow.cell_far ⟨g, 2, none⟩ (by simp; omega) (Ne.symm hown')).trans (by simp [World.cell?_alloc_some, l2]); have k1 : w1.frozen? ⟨g, 2, none⟩ = false := (hgrow.frozen_far ⟨g, 2, none⟩ (by simp; omega) (Ne.symm hown')).trans (by simp [frozen?_alloc_cells, f2])))
  all_goals go_wp2_with fail
  all_goals go_end0
  all_goals
    have hb1 : Blk w1 g 69 #[.slice A hs.length hc, .int .i64 bs, ov] := (((hblk.alloc _)).drew).grown hgrow (Ne.symm hown')
    have hgg : gg ≠ g := by
      rintro rfl
      rcases hat with h | h
      · exact hown' h
      · omega
    have hKp : Keep w w1 (fun k => k = g ∨ ov.ownBlock = some k) := (((Keep.refl w _).alloc _).drew).grown hgrow (fun k hk _ => .inr hk)
    have hK2 := hKp.setCell ⟨g, 2, none⟩ (fun _ => .inl rfl) (.slice (some ⟨gg, 0, none⟩) (out.length + 1) cap)
    refine ⟨rfl, .slice (some ⟨gg, 0, none⟩) (out.length + 1) cap, ⟨by simpa using hb1.set 2 (.slice (some ⟨gg, 0, none⟩) (out.length + 1) cap), ?_, hhom.kept hK2 hbase ?_, Nat.le_trans hbase hK2.size, hbg, hmany⟩, hK2, ?_⟩
    · rw [codeCells_append, List.length_append]
      exact setRow_own hown1 ⟨g, 2, none⟩ _ (by simpa [Value.ownBlock] using hgg)
    · intro k hk hcc
      rcases hcc with hcc | hcc
      · omega
      · have := hown.lt _ hcc; omega
    · intro k hk
      simp only [Value.ownBlock, Option.some.injEq] at hk
      subst hk
      rcases hat with h | h
      · exact .inl h
      · exact .inr (by omega)
end Go.Proofs.YthkiajbgdamjgaaDoor

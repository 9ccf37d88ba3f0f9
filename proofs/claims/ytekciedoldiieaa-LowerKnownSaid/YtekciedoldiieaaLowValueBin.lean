/- The function value of package lower at operators of two operands; and at every expression. -/
import Derived.Test.YtekciedoldiieaaLowValueUn
namespace Go.Proofs.Ytekciedoldiieaa
open Go.RowKit

set_option maxRecDepth 100000 in
set_option maxHeartbeats 6400000 in
theorem value_bin (op n ty ref : Int) (x y : EV) (hop : op ≠ 0 ∧ op ≠ 26 ∧ op ≠ 27 ∧ op ≠ 28 ∧ op ≠ 4 ∧ op ≠ 5 ∧ op ≠ 6 ∧ op ≠ 7 ∧ op ≠ 8) (ih : ValueSaid x) (ihy : ValueSaid y) : ValueSaid (.bin op n ty ref x y) := by
  obtain ⟨n0, n26, n27, n28, n4, n5, n6, n7, n8⟩ := hop
  have t0 : (op != 0) = true := by simpa using n0
  have t1 : (op == 0) = false := by simpa using n0
  have t2 : (op == 26) = false := by simpa using n26
  have t3 : (op == 27) = false := by simpa using n27
  have t4 : (op == 28) = false := by simpa using n28
  have t5 : (op == 4) = false := by simpa using n4
  have t6 : (op == 5) = false := by simpa using n5
  have t7 : (op == 6) = false := by simpa using n6
  have t8 : (op == 7) = false := by simpa using n7
  have t9 : (op == 8) = false := by simpa using n8
  clear n0 n26 n27 n28 n4 n5 n6 n7 n8
  rintro w g base av r s l cs hl ⟨at_, nm, fd, b, o, c, rfl, hb, cx, cy, hx, hy, hc, hd⟩ hn hr0 hr1
  simp only [EV.size] at hn hr1
  have hglt := hl.blk.lt
  have hbase := hl.low
  have hblt : b < w.heap.size := by omega
  have IH := Lib.hid ih
  clear ih
  have IHy := Lib.hid ihy
  clear ihy
  obtain ⟨xop, xat, xnm, xfd, xn, xref, xA, xk, xc, rfl⟩ := hx.form
  obtain ⟨yop, yat, ynm, yfd, yn, yref, yA, yk, yc, rfl⟩ := hy.form
  have d0 := hc 0 _ rfl
  have d1 := hc 1 _ rfl
  have d2 := hc 2 _ rfl
  have d3 := hc 3 _ rfl
  have d4 := hc 4 _ rfl
  have d5 := hc 5 _ rfl
  have d6 := hc 6 _ rfl
  have d7 := hc 7 _ rfl
  have m0 := hd 0 _ rfl
  have m1 := hd 1 _ rfl
  have m2 := hd 2 _ rfl
  have m3 := hd 3 _ rfl
  have m4 := hd 4 _ rfl
  have m5 := hd 5 _ rfl
  have m6 := hd 6 _ rfl
  have m7 := hd 7 _ rfl
  simp only [Nat.add_zero, Nat.add_assoc, Nat.reduceAdd] at d0 m0 m1 m2 m3 m4 m5 m6 m7
  have HC := Lib.hid hc
  have HD := Lib.hid hd
  clear hc hd
  go_enter Try.func22, Try.ntmps22
  go_wp2_with fail
  refine wp_loop_rounds 3 ?_
  rw [rounds_succ]
  go_wp2_with fail
  refine (IH.out _ g base av r s l _ (((hl.alloc _).alloc _).alloc _) (((hx.alloc hbase _).alloc (by simp; omega) _).alloc (by simp; omega) _) (by omega) hr0 (by omega)).mono ?_
  rintro e' w1 ⟨rfl, av1, hl1, hs1⟩
  have bE := hs1.blk (((hl.alloc _).alloc _).alloc _) (((Blk.newAt rfl).alloc _).alloc _) (by decide) (.inl (by decide))
  have bR := hs1.blk (((hl.alloc _).alloc _).alloc _) ((Blk.newAt (by simp; rfl)).alloc _) (by decide) (.inl (by decide))
  have hz := hs1.keep.size
  simp at hz
  have hz0 : w.heap.size < w1.heap.size := by omega
  have hz1 : w.heap.size + 1 < w1.heap.size := by omega
  have hzb : b < w1.heap.size := by omega
  have g0 := bR.cell 0
  have g1 := bR.cell 1
  have fr := bR.frozen 0
  simp at g0 g1
  have hS1 := ((((LS.refl w g av).alloc _).alloc _).alloc _).trans hs1
  have hy1 := hy.step hl hS1
  have hx1 := hx.step hl hS1
  have kb : ∀ i, w1.cell? ⟨b, i, none⟩ = w.cell? ⟨b, i, none⟩ := fun i => hS1.keep.cell (a := ⟨b, i, none⟩) hblt (fun hc => by
    rcases hc with hc | hc
    · have := hl.lowg; simp at hc; omega
    · have := hl.own.lt _ hc; simp at this; omega)
  rw [← kb] at d0 d1 d2 d3 d4 d5 d6 d7 m0 m1 m2 m3 m4 m5 m6 m7
  have KB := Lib.hid kb
  clear kb
  have hp := EV.lower_len s x r
  have hq := EV.lower_regs s x r
  generalize hP : x.lower s r = P at *
  obtain ⟨P1, P2, P3⟩ := P
  have HP := Lib.hid hP
  clear hP
  simp only at hl1 hp hq
  go_wp2_with fail
  rw [rounds_succ]
  go_wp2_with fail
  have hlB := hl1.setOther bR (by decide) (.inl (by decide)) 0 (.int .i64 P2)
  have hyB : Rep (w1.setCell ⟨w.heap.size + 1, 0, none⟩ (.int .i64 P2)) base y _ := hy1.kept ((Keep.refl w1 (fun b => b = w.heap.size + 1)).setCell ⟨w.heap.size + 1, 0, none⟩ (fun _ => rfl) _) hl1.low (fun k hk hc => by have : k = w.heap.size + 1 := hc; omega)
  refine (IHy.out _ g base av1 P3 s (l ++ P1) _ (hlB.alloc _) (hyB.alloc (by simpa [World.setCell] using hl1.low) _) (by simp; omega) (by omega) (by omega)).mono ?_
  rintro e' w2 ⟨rfl, av2, hl2, hs2⟩
  have bE2 := hs2.blk (hlB.alloc _) ((bE.far (p := ⟨w.heap.size + 1, 0, none⟩) (by simp) _).alloc _) (by decide) (.inl (by decide))
  have bR2 := hs2.blk (hlB.alloc _) ((bR.set 0 (.int .i64 P2)).alloc _) (by decide) (.inl (by decide))
  have hy0 := hs2.keep.size
  simp at hy0
  have hy2 : w.heap.size < w2.heap.size := by omega
  have hy3 : w.heap.size + 1 < w2.heap.size := by omega
  have hy4 : b < w2.heap.size := by omega
  have hS2 := ((hS1.setNew ⟨w.heap.size + 1, 0, none⟩ (by simp) (.int .i64 P2)).alloc _).trans hs2
  have x5 := hx.step hl hS2
  have kb : ∀ i, w2.cell? ⟨b, i, none⟩ = w1.cell? ⟨b, i, none⟩ := fun i => (hS2.keep.cell (a := ⟨b, i, none⟩) hblt (fun hc => by
    rcases hc with hc | hc
    · have := hl.lowg; simp at hc; omega
    · have := hl.own.lt _ hc; simp at this; omega)).trans (KB.out i).symm
  have q5 : w2.cell? ⟨b, o + 5, none⟩ = some (.int .i64 x.ty) := (kb _).trans d5
  have HKB := Lib.hid kb
  clear kb d0 d1 d2 d3 d4 d5 d6 d7 m0 m1 m2 m3 m4 m5 m6 m7 g0 g1 fr
  have e0 := bE2.cell 0
  have e4 := bE2.cell 4
  have e5 := bE2.cell 5
  have e6 := bE2.cell 6
  have e7 := bE2.cell 7
  have g0 := bR2.cell 0
  have g1 := bR2.cell 1
  have fr := bR2.frozen 1
  simp at e0 e4 e5 e6 e7 g0 g1
  have hp' := EV.lower_len s y P3
  have hq' := EV.lower_regs s y P3
  generalize hP : y.lower s P3 = P at *
  obtain ⟨R1, R2, R3⟩ := P
  have HR := Lib.hid hP
  clear hP
  simp only at hl2 hp' hq'
  go_wp2_with fail
  rw [rounds_succ]
  go_wp2_with fail
  go_region
  all_goals
    go_wp2_with fail
    refine (fresh_any _ g base av2 R3 s (l ++ P1 ++ R1) _ _ _ _ _ _ _ _ _ (((hl2.setOther bR2 (by decide) (.inl (by decide)) 1 (.int .i64 R2)).alloc _).drew) (by simp; omega) (by omega) (by omega)).mono ?_
    rintro e w3 ⟨rfl, av3, hl3, hs3⟩
    go_wp2_with fail
    go_ret
    refine ⟨by simp [EV.lower, HP.out, HR.out], av3, by simpa [EV.lower, HP.out, HR.out] using hl3, (((hS2.setNew _ (by simp) _).alloc _).drew).trans hs3⟩

theorem value_any : ∀ e : EV, e.ok → ValueSaid e
  | .leaf op n ty ref, h => by
    rcases h with rfl | rfl | rfl
    · exact value_num n ty ref
    · exact value_local n ty ref
    · exact value_word n ty ref
  | .un op n ty ref x, ⟨h, hx⟩ => by
    have ih := value_any x hx
    rcases h with rfl | rfl | rfl | rfl | rfl | rfl
    · exact value_cell n ty ref x ih
    · exact value_un4 n ty ref x ih
    · exact value_un5 n ty ref x ih
    · exact value_un6 n ty ref x ih
    · exact value_un7 n ty ref x ih
    · exact value_un8 n ty ref x ih
  | .bin op n ty ref x y, ⟨h, hx, hy⟩ => value_bin op n ty ref x y h (value_any x hx) (value_any y hy)
end Go.Proofs.Ytekciedoldiieaa

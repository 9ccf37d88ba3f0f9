/- The function value of package lower at operators of one operand. -/
import Derived.Test.YtekciedoldiieaaLowValue
namespace Go.Proofs.Ytekciedoldiieaa
open Go.RowKit

set_option maxRecDepth 100000 in
set_option maxHeartbeats 3200000 in
theorem value_un4 (n ty ref : Int) (x : EV) (ih : ValueSaid x) : ValueSaid (.un 4 n ty ref x) := by
  rintro w g base av r s l cs hl ⟨at_, nm, fd, b, o, c, rfl, hb, cx, hx, hc⟩ hn hr0 hr1
  simp only [EV.size] at hn hr1
  have hglt := hl.blk.lt
  have hbase := hl.low
  have hblt : b < w.heap.size := by omega
  have IH := Lib.hid ih
  clear ih
  obtain ⟨xop, xat, xnm, xfd, xn, xref, xA, xk, xc, rfl⟩ := hx.form
  have d0 := hc 0 _ rfl
  have d1 := hc 1 _ rfl
  have d2 := hc 2 _ rfl
  have d3 := hc 3 _ rfl
  have d4 := hc 4 _ rfl
  have d5 := hc 5 _ rfl
  have d6 := hc 6 _ rfl
  have d7 := hc 7 _ rfl
  simp only [Nat.add_zero] at d0
  clear hc
  go_enter Try.func22, Try.ntmps22
  go_wp2_with fail
  refine wp_loop_rounds 2 ?_
  rw [rounds_succ]
  go_wp2_with fail
  refine (IH.out _ g base av r s l _ (((hl.alloc _).alloc _).alloc _) (((hx.alloc hbase _).alloc (by simp; omega) _).alloc (by simp; omega) _) (by omega) hr0 (by omega)).mono ?_
  rintro e' w1 ⟨rfl, av1, hl1, hs1⟩
  have bE := hs1.blk (((hl.alloc _).alloc _).alloc _) (((Blk.newAt rfl).alloc _).alloc _) (by decide) (.inl (by decide))
  have bR := hs1.blk (((hl.alloc _).alloc _).alloc _) ((Blk.newAt (by simp; rfl)).alloc _) (by decide) (.inl (by decide))
  have hz := hs1.keep.size
  simp at hz
  have hz0 : w.heap.size < w1.heap.size := by omega
  have hz1 : w.heap.size + 1 < w1.heap.size := by omega
  have e0 := bE.cell 0
  have e4 := bE.cell 4
  have e5 := bE.cell 5
  have e6 := bE.cell 6
  have e7 := bE.cell 7
  have g0 := bR.cell 0
  have g1 := bR.cell 1
  have fr := bR.frozen 0
  simp at e0 e4 e5 e6 e7 g0 g1
  have hp := EV.lower_len s x r
  have hq := EV.lower_regs s x r
  generalize hP : x.lower s r = P at *
  obtain ⟨P1, P2, P3⟩ := P
  have HP := Lib.hid hP
  clear hP
  simp only at hl1 hp hq
  have hS1 := ((((LS.refl w g av).alloc _).alloc _).alloc _).trans hs1
  go_wp2_with fail
  rw [rounds_succ]
  go_wp2_with fail
  go_region
  all_goals
    go_wp2_with fail
    refine (fresh_any _ g base av1 P3 s (l ++ P1) _ _ _ _ _ _ _ _ _ (((hl1.setOther bR (by decide) (.inl (by decide)) 0 (.int .i64 P2)).alloc _).drew) (by simp; omega) (by omega) (by omega)).mono ?_
    rintro e w2 ⟨rfl, av2, hl2, hs2⟩
    go_wp2_with fail
    go_ret
    refine ⟨by simp [EV.lower, HP.out], av2, by simpa [EV.lower, HP.out] using hl2, (((hS1.setNew _ (by simp) _).alloc _).drew).trans hs2⟩

set_option maxRecDepth 100000 in
set_option maxHeartbeats 3200000 in
theorem value_un5 (n ty ref : Int) (x : EV) (ih : ValueSaid x) : ValueSaid (.un 5 n ty ref x) := by
  rintro w g base av r s l cs hl ⟨at_, nm, fd, b, o, c, rfl, hb, cx, hx, hc⟩ hn hr0 hr1
  simp only [EV.size] at hn hr1
  have hglt := hl.blk.lt
  have hbase := hl.low
  have hblt : b < w.heap.size := by omega
  have IH := Lib.hid ih
  clear ih
  obtain ⟨xop, xat, xnm, xfd, xn, xref, xA, xk, xc, rfl⟩ := hx.form
  have d0 := hc 0 _ rfl
  have d1 := hc 1 _ rfl
  have d2 := hc 2 _ rfl
  have d3 := hc 3 _ rfl
  have d4 := hc 4 _ rfl
  have d5 := hc 5 _ rfl
  have d6 := hc 6 _ rfl
  have d7 := hc 7 _ rfl
  simp only [Nat.add_zero] at d0
  clear hc
  go_enter Try.func22, Try.ntmps22
  go_wp2_with fail
  refine wp_loop_rounds 2 ?_
  rw [rounds_succ]
  go_wp2_with fail
  refine (IH.out _ g base av r s l _ (((hl.alloc _).alloc _).alloc _) (((hx.alloc hbase _).alloc (by simp; omega) _).alloc (by simp; omega) _) (by omega) hr0 (by omega)).mono ?_
  rintro e' w1 ⟨rfl, av1, hl1, hs1⟩
  have bE := hs1.blk (((hl.alloc _).alloc _).alloc _) (((Blk.newAt rfl).alloc _).alloc _) (by decide) (.inl (by decide))
  have bR := hs1.blk (((hl.alloc _).alloc _).alloc _) ((Blk.newAt (by simp; rfl)).alloc _) (by decide) (.inl (by decide))
  have hz := hs1.keep.size
  simp at hz
  have hz0 : w.heap.size < w1.heap.size := by omega
  have hz1 : w.heap.size + 1 < w1.heap.size := by omega
  have e0 := bE.cell 0
  have e4 := bE.cell 4
  have e5 := bE.cell 5
  have e6 := bE.cell 6
  have e7 := bE.cell 7
  have g0 := bR.cell 0
  have g1 := bR.cell 1
  have fr := bR.frozen 0
  simp at e0 e4 e5 e6 e7 g0 g1
  have hp := EV.lower_len s x r
  have hq := EV.lower_regs s x r
  generalize hP : x.lower s r = P at *
  obtain ⟨P1, P2, P3⟩ := P
  have HP := Lib.hid hP
  clear hP
  simp only at hl1 hp hq
  have hS1 := ((((LS.refl w g av).alloc _).alloc _).alloc _).trans hs1
  go_wp2_with fail
  rw [rounds_succ]
  go_wp2_with fail
  go_region
  all_goals
    go_wp2_with fail
    refine (fresh_any _ g base av1 P3 s (l ++ P1) _ _ _ _ _ _ _ _ _ (((hl1.setOther bR (by decide) (.inl (by decide)) 0 (.int .i64 P2)).alloc _).drew) (by simp; omega) (by omega) (by omega)).mono ?_
    rintro e w2 ⟨rfl, av2, hl2, hs2⟩
    go_wp2_with fail
    go_ret
    refine ⟨by simp [EV.lower, HP.out], av2, by simpa [EV.lower, HP.out] using hl2, (((hS1.setNew _ (by simp) _).alloc _).drew).trans hs2⟩

set_option maxRecDepth 100000 in
set_option maxHeartbeats 3200000 in
theorem value_un6 (n ty ref : Int) (x : EV) (ih : ValueSaid x) : ValueSaid (.un 6 n ty ref x) := by
  rintro w g base av r s l cs hl ⟨at_, nm, fd, b, o, c, rfl, hb, cx, hx, hc⟩ hn hr0 hr1
  simp only [EV.size] at hn hr1
  have hglt := hl.blk.lt
  have hbase := hl.low
  have hblt : b < w.heap.size := by omega
  have IH := Lib.hid ih
  clear ih
  obtain ⟨xop, xat, xnm, xfd, xn, xref, xA, xk, xc, rfl⟩ := hx.form
  have d0 := hc 0 _ rfl
  have d1 := hc 1 _ rfl
  have d2 := hc 2 _ rfl
  have d3 := hc 3 _ rfl
  have d4 := hc 4 _ rfl
  have d5 := hc 5 _ rfl
  have d6 := hc 6 _ rfl
  have d7 := hc 7 _ rfl
  simp only [Nat.add_zero] at d0
  clear hc
  go_enter Try.func22, Try.ntmps22
  go_wp2_with fail
  refine wp_loop_rounds 2 ?_
  rw [rounds_succ]
  go_wp2_with fail
  refine (IH.out _ g base av r s l _ (((hl.alloc _).alloc _).alloc _) (((hx.alloc hbase _).alloc (by simp; omega) _).alloc (by simp; omega) _) (by omega) hr0 (by omega)).mono ?_
  rintro e' w1 ⟨rfl, av1, hl1, hs1⟩
  have bE := hs1.blk (((hl.alloc _).alloc _).alloc _) (((Blk.newAt rfl).alloc _).alloc _) (by decide) (.inl (by decide))
  have bR := hs1.blk (((hl.alloc _).alloc _).alloc _) ((Blk.newAt (by simp; rfl)).alloc _) (by decide) (.inl (by decide))
  have hz := hs1.keep.size
  simp at hz
  have hz0 : w.heap.size < w1.heap.size := by omega
  have hz1 : w.heap.size + 1 < w1.heap.size := by omega
  have e0 := bE.cell 0
  have e4 := bE.cell 4
  have e5 := bE.cell 5
  have e6 := bE.cell 6
  have e7 := bE.cell 7
  have g0 := bR.cell 0
  have g1 := bR.cell 1
  have fr := bR.frozen 0
  simp at e0 e4 e5 e6 e7 g0 g1
  have hp := EV.lower_len s x r
  have hq := EV.lower_regs s x r
  generalize hP : x.lower s r = P at *
  obtain ⟨P1, P2, P3⟩ := P
  have HP := Lib.hid hP
  clear hP
  simp only at hl1 hp hq
  have hS1 := ((((LS.refl w g av).alloc _).alloc _).alloc _).trans hs1
  go_wp2_with fail
  rw [rounds_succ]
  go_wp2_with fail
  go_region
  all_goals
    go_wp2_with fail
    refine (fresh_any _ g base av1 P3 s (l ++ P1) _ _ _ _ _ _ _ _ _ (((hl1.setOther bR (by decide) (.inl (by decide)) 0 (.int .i64 P2)).alloc _).drew) (by simp; omega) (by omega) (by omega)).mono ?_
    rintro e w2 ⟨rfl, av2, hl2, hs2⟩
    go_wp2_with fail
    go_ret
    refine ⟨by simp [EV.lower, HP.out], av2, by simpa [EV.lower, HP.out] using hl2, (((hS1.setNew _ (by simp) _).alloc _).drew).trans hs2⟩

set_option maxRecDepth 100000 in
set_option maxHeartbeats 3200000 in
theorem value_un7 (n ty ref : Int) (x : EV) (ih : ValueSaid x) : ValueSaid (.un 7 n ty ref x) := by
  rintro w g base av r s l cs hl ⟨at_, nm, fd, b, o, c, rfl, hb, cx, hx, hc⟩ hn hr0 hr1
  simp only [EV.size] at hn hr1
  have hglt := hl.blk.lt
  have hbase := hl.low
  have hblt : b < w.heap.size := by omega
  have IH := Lib.hid ih
  clear ih
  obtain ⟨xop, xat, xnm, xfd, xn, xref, xA, xk, xc, rfl⟩ := hx.form
  have d0 := hc 0 _ rfl
  have d1 := hc 1 _ rfl
  have d2 := hc 2 _ rfl
  have d3 := hc 3 _ rfl
  have d4 := hc 4 _ rfl
  have d5 := hc 5 _ rfl
  have d6 := hc 6 _ rfl
  have d7 := hc 7 _ rfl
  simp only [Nat.add_zero] at d0
  clear hc
  go_enter Try.func22, Try.ntmps22
  go_wp2_with fail
  refine wp_loop_rounds 2 ?_
  rw [rounds_succ]
  go_wp2_with fail
  refine (IH.out _ g base av r s l _ (((hl.alloc _).alloc _).alloc _) (((hx.alloc hbase _).alloc (by simp; omega) _).alloc (by simp; omega) _) (by omega) hr0 (by omega)).mono ?_
  rintro e' w1 ⟨rfl, av1, hl1, hs1⟩
  have bE := hs1.blk (((hl.alloc _).alloc _).alloc _) (((Blk.newAt rfl).alloc _).alloc _) (by decide) (.inl (by decide))
  have bR := hs1.blk (((hl.alloc _).alloc _).alloc _) ((Blk.newAt (by simp; rfl)).alloc _) (by decide) (.inl (by decide))
  have hz := hs1.keep.size
  simp at hz
  have hz0 : w.heap.size < w1.heap.size := by omega
  have hz1 : w.heap.size + 1 < w1.heap.size := by omega
  have e0 := bE.cell 0
  have e4 := bE.cell 4
  have e5 := bE.cell 5
  have e6 := bE.cell 6
  have e7 := bE.cell 7
  have g0 := bR.cell 0
  have g1 := bR.cell 1
  have fr := bR.frozen 0
  simp at e0 e4 e5 e6 e7 g0 g1
  have hp := EV.lower_len s x r
  have hq := EV.lower_regs s x r
  generalize hP : x.lower s r = P at *
  obtain ⟨P1, P2, P3⟩ := P
  have HP := Lib.hid hP
  clear hP
  simp only at hl1 hp hq
  have hS1 := ((((LS.refl w g av).alloc _).alloc _).alloc _).trans hs1
  go_wp2_with fail
  rw [rounds_succ]
  go_wp2_with fail
  go_region
  all_goals
    go_wp2_with fail
    refine (fresh_any _ g base av1 P3 s (l ++ P1) _ _ _ _ _ _ _ _ _ (((hl1.setOther bR (by decide) (.inl (by decide)) 0 (.int .i64 P2)).alloc _).drew) (by simp; omega) (by omega) (by omega)).mono ?_
    rintro e w2 ⟨rfl, av2, hl2, hs2⟩
    go_wp2_with fail
    go_ret
    refine ⟨by simp [EV.lower, HP.out], av2, by simpa [EV.lower, HP.out] using hl2, (((hS1.setNew _ (by simp) _).alloc _).drew).trans hs2⟩

set_option maxRecDepth 100000 in
set_option maxHeartbeats 3200000 in
theorem value_un8 (n ty ref : Int) (x : EV) (ih : ValueSaid x) : ValueSaid (.un 8 n ty ref x) := by
  rintro w g base av r s l cs hl ⟨at_, nm, fd, b, o, c, rfl, hb, cx, hx, hc⟩ hn hr0 hr1
  simp only [EV.size] at hn hr1
  have hglt := hl.blk.lt
  have hbase := hl.low
  have hblt : b < w.heap.size := by omega
  have IH := Lib.hid ih
  clear ih
  obtain ⟨xop, xat, xnm, xfd, xn, xref, xA, xk, xc, rfl⟩ := hx.form
  have d0 := hc 0 _ rfl
  have d1 := hc 1 _ rfl
  have d2 := hc 2 _ rfl
  have d3 := hc 3 _ rfl
  have d4 := hc 4 _ rfl
  have d5 := hc 5 _ rfl
  have d6 := hc 6 _ rfl
  have d7 := hc 7 _ rfl
  simp only [Nat.add_zero] at d0
  clear hc
  go_enter Try.func22, Try.ntmps22
  go_wp2_with fail
  refine wp_loop_rounds 2 ?_
  rw [rounds_succ]
  go_wp2_with fail
  refine (IH.out _ g base av r s l _ (((hl.alloc _).alloc _).alloc _) (((hx.alloc hbase _).alloc (by simp; omega) _).alloc (by simp; omega) _) (by omega) hr0 (by omega)).mono ?_
  rintro e' w1 ⟨rfl, av1, hl1, hs1⟩
  have bE := hs1.blk (((hl.alloc _).alloc _).alloc _) (((Blk.newAt rfl).alloc _).alloc _) (by decide) (.inl (by decide))
  have bR := hs1.blk (((hl.alloc _).alloc _).alloc _) ((Blk.newAt (by simp; rfl)).alloc _) (by decide) (.inl (by decide))
  have hz := hs1.keep.size
  simp at hz
  have hz0 : w.heap.size < w1.heap.size := by omega
  have hz1 : w.heap.size + 1 < w1.heap.size := by omega
  have e0 := bE.cell 0
  have e4 := bE.cell 4
  have e5 := bE.cell 5
  have e6 := bE.cell 6
  have e7 := bE.cell 7
  have g0 := bR.cell 0
  have g1 := bR.cell 1
  have fr := bR.frozen 0
  simp at e0 e4 e5 e6 e7 g0 g1
  have hp := EV.lower_len s x r
  have hq := EV.lower_regs s x r
  generalize hP : x.lower s r = P at *
  obtain ⟨P1, P2, P3⟩ := P
  have HP := Lib.hid hP
  clear hP
  simp only at hl1 hp hq
  have hS1 := ((((LS.refl w g av).alloc _).alloc _).alloc _).trans hs1
  go_wp2_with fail
  rw [rounds_succ]
  go_wp2_with fail
  go_region
  all_goals
    go_wp2_with fail
    refine (fresh_any _ g base av1 P3 s (l ++ P1) _ _ _ _ _ _ _ _ _ (((hl1.setOther bR (by decide) (.inl (by decide)) 0 (.int .i64 P2)).alloc _).drew) (by simp; omega) (by omega) (by omega)).mono ?_
    rintro e w2 ⟨rfl, av2, hl2, hs2⟩
    go_wp2_with fail
    go_ret
    refine ⟨by simp [EV.lower, HP.out], av2, by simpa [EV.lower, HP.out] using hl2, (((hS1.setNew _ (by simp) _).alloc _).drew).trans hs2⟩

end Go.Proofs.Ytekciedoldiieaa

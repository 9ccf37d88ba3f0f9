/- The method set of package lower. -/
import Derived.Test.YtekciedoldiieaaLowStep2
namespace Go.Proofs.Ytekciedoldiieaa
open Go.RowKit

/-- The instructions of a StepSet. -/
def setL (st : SV) (r s : Int) : List I9 × Int :=
  match st.es with
  | [] => ([], r)
  | x :: t =>
    if st.count = 0 then ((x.lower s r).1 ++ [putI st (x.lower s r).2.1 s], (x.lower s r).2.2)
    else match t with
      | [] => ([], r)
      | y :: _ => ((x.lower s r).1 ++ ((y.lower s (x.lower s r).2.2).1 ++ [⟨8, 0, 0, 0, (x.lower s r).2.1, (y.lower s (x.lower s r).2.2).2.1, st.addr, st.count, s⟩]), (y.lower s (x.lower s r).2.2).2.2)
def setPre (st : SV) : Prop := ∃ x t, st.es = x :: t ∧ x.ok ∧ (st.count ≠ 0 → ∃ y u, t = y :: u ∧ y.ok)

set_option maxRecDepth 100000 in
set_option maxHeartbeats 6400000 in
theorem set_plain (w : World) (g base : Nat) (av : Value) (r s : Int) (l : List I9) (op line var addr ty func reg next els : Int) (x : EV) (t : List EV) (A : Option Addr) (c : Nat)
    (hl : Low w g base av r s l) (hes : RepEs w base A (x :: t)) (hok : x.ok) (hn : l.length + (x.size + 1) < 1000000000000) (hr0 : 0 ≤ r) (hr1 : r + x.size < 1000000000000000) :
    Calls Try.prog 12 #[.pointer (some ⟨g, 0, none⟩), .agg (SV.cells ⟨op, line, var, addr, 0, ty, x :: t, func, reg, next, els⟩ A c)] w fun e w' =>
    e = .returned (.tuple #[]) ∧ ∃ av', Low w' g base av' (setL ⟨op, line, var, addr, 0, ty, x :: t, func, reg, next, els⟩ r s).2 s (l ++ (setL ⟨op, line, var, addr, 0, ty, x :: t, func, reg, next, els⟩ r s).1) ∧ LS w w' g av av' := by
  have hput := fun W AV R L a => put_any W g base AV R s L ⟨op, line, var, addr, 0, ty, x :: t, func, reg, next, els⟩ A c a
  obtain ⟨b, o, rfl, hb, hall⟩ := hes (by simp)
  obtain ⟨cs, hr, hc⟩ := hall 0 x rfl
  clear hall hes
  have hval := value_any x hok
  have HV := Lib.hid hval
  clear hval
  obtain ⟨xop, xat, xnm, xfd, xn, xref, xA, xk, xc, rfl⟩ := hr.form
  have hglt := hl.blk.lt
  have hbase := hl.low
  have hblt : b < w.heap.size := by omega
  have d0 := hc 0 _ rfl
  have d1 := hc 1 _ rfl
  have d2 := hc 2 _ rfl
  have d3 := hc 3 _ rfl
  have d4 := hc 4 _ rfl
  have d5 := hc 5 _ rfl
  have d6 := hc 6 _ rfl
  have d7 := hc 7 _ rfl
  simp only [Nat.add_zero, Nat.mul_zero] at d0 d1 d2 d3 d4 d5 d6 d7
  clear hc
  have hk1 : (0 : Int) < (t.length : Int) + 1 := by omega
  have hp := EV.lower_len s x r
  simp only [SV.cells, List.length_cons] at hput
  have HP := Lib.hid hput
  clear hput
  unfold SV.cells
  go_enter Try.func12, Try.ntmps12
  go_wp2_with fail
  go_region_held3 (fun w' => w'.cell? ⟨w.heap.size, 0, none⟩ = some (.int .i64 op) ∧ w'.cell? ⟨w.heap.size, 1, none⟩ = some (.int .i64 line) ∧ w'.cell? ⟨w.heap.size, 2, none⟩ = some (.int .i64 var) ∧ w'.cell? ⟨w.heap.size, 3, none⟩ = some (.int .i64 addr) ∧ w'.cell? ⟨w.heap.size, 4, none⟩ = some (.int .i64 0) ∧ w'.cell? ⟨w.heap.size, 5, none⟩ = some (.int .i64 ty) ∧ w'.cell? ⟨w.heap.size, 6, none⟩ = some (.slice (some ⟨b, o, none⟩) (t.length + 1) c) ∧ w'.cell? ⟨w.heap.size, 7, none⟩ = some (.int .i64 func) ∧ w'.cell? ⟨w.heap.size, 8, none⟩ = some (.int .i64 reg) ∧ w'.cell? ⟨w.heap.size, 9, none⟩ = some (.int .i64 next) ∧ w'.cell? ⟨w.heap.size, 10, none⟩ = some (.int .i64 els) ∧ w'.cell? ⟨b, o, none⟩ = some (.int .i64 xop) ∧ w'.cell? ⟨b, o + 1, none⟩ = some (.int .i64 xat) ∧ w'.cell? ⟨b, o + 2, none⟩ = some (.string xnm) ∧ w'.cell? ⟨b, o + 3, none⟩ = some (.string xfd) ∧ w'.cell? ⟨b, o + 4, none⟩ = some (.int .i64 xn) ∧ w'.cell? ⟨b, o + 5, none⟩ = some (.int .i64 x.ty) ∧ w'.cell? ⟨b, o + 6, none⟩ = some (.int .i64 xref) ∧ w'.cell? ⟨b, o + 7, none⟩ = some (.slice xA xk xc))
    (first
      | (go_keep; done)
      | (simp only [s0, s1, s2, s3, s4, s5, s6, s7, s8, s9, s10, true_and]; exact ⟨(kb _).trans d0, (kb _).trans d1, (kb _).trans d2, (kb _).trans d3, (kb _).trans d4, (kb _).trans d5, (kb _).trans d6, (kb _).trans d7⟩))
    (first
      | (go_at_call 22; refine (HV.out _ g base av r s l _ (hl.alloc _).drew (hr.alloc hbase _).drew (by omega) hr0 (by omega)).mono ?_; rintro e w1 ⟨rfl, av1, hl1, hs1⟩; have bS := hs1.blk (hl.alloc _).drew (Blk.newAt rfl).drew (by decide) (.inl (by decide)); have s0 := bS.cell 0; have s1 := bS.cell 1; have s2 := bS.cell 2; have s3 := bS.cell 3; have s4 := bS.cell 4; have s5 := bS.cell 5; have s6 := bS.cell 6; have s7 := bS.cell 7; have s8 := bS.cell 8; have s9 := bS.cell 9; have s10 := bS.cell 10; simp at s0 s1 s2 s3 s4 s5 s6 s7 s8 s9 s10; have hS1 := ((LS.refl w g av).alloc _).drew.trans hs1; have hz := hs1.keep.size; simp at hz; have hz0 : w.heap.size < w1.heap.size := (by omega); have kb := (fun i => hS1.old hl (a := ⟨b, i, none⟩) hb); have hblt1 : b < w1.heap.size := (by omega))
      | (go_at_call 21; refine (HP.out _ av1 _ _ _ hl1 (by simp; omega)).mono ?_; rintro e w2 ⟨rfl, av2, hl2, hs2⟩; have bS2 := hs2.blk hl1 bS (by decide) (.inl (by decide)); clear s0 s1 s2 s3 s4 s5 s6 s7 s8 s9 s10; have s0 := bS2.cell 0; have s1 := bS2.cell 1; have s2 := bS2.cell 2; have s3 := bS2.cell 3; have s4 := bS2.cell 4; have s5 := bS2.cell 5; have s6 := bS2.cell 6; have s7 := bS2.cell 7; have s8 := bS2.cell 8; have s9 := bS2.cell 9; have s10 := bS2.cell 10; simp at s0 s1 s2 s3 s4 s5 s6 s7 s8 s9 s10; have hS2 := hS1.trans hs2; clear kb; have kb := (fun i => hS2.old hl (a := ⟨b, i, none⟩) hb)))
  all_goals
    go_wp2_with fail
    refine bodyPost_ret (results_none rfl _ _ _) rfl ?_
    exact ⟨rfl, av2, by simpa [setL] using hl2, hS2⟩

set_option maxRecDepth 100000 in
set_option maxHeartbeats 6400000 in
theorem set_cell (w : World) (g base : Nat) (av : Value) (r s : Int) (l : List I9) (op line var addr count ty func reg next els : Int) (x y : EV) (t : List EV) (A : Option Addr) (c : Nat)
    (hl : Low w g base av r s l) (hes : RepEs w base A (x :: y :: t)) (hok : x.ok) (hoky : y.ok) (hcount : count ≠ 0) (hn : l.length + (x.size + y.size + 1) < 1000000000000) (hr0 : 0 ≤ r) (hr1 : r + x.size + y.size < 1000000000000000) :
    Calls Try.prog 12 #[.pointer (some ⟨g, 0, none⟩), .agg (SV.cells ⟨op, line, var, addr, count, ty, x :: y :: t, func, reg, next, els⟩ A c)] w fun e w' =>
    e = .returned (.tuple #[]) ∧ ∃ av', Low w' g base av' (setL ⟨op, line, var, addr, count, ty, x :: y :: t, func, reg, next, els⟩ r s).2 s (l ++ (setL ⟨op, line, var, addr, count, ty, x :: y :: t, func, reg, next, els⟩ r s).1) ∧ LS w w' g av av' := by
  have t0 : (count == 0) = false := by simpa using hcount
  have HC := Lib.hid hcount
  clear hcount
  obtain ⟨b, o, rfl, hb, hall⟩ := hes (by simp)
  obtain ⟨cs, hr, hc⟩ := hall 0 x rfl
  obtain ⟨ds, hry, hd⟩ := hall 1 y rfl
  clear hall hes
  have hval := value_any x hok
  have HV := Lib.hid hval
  clear hval
  have hval := value_any y hoky
  have HVy := Lib.hid hval
  clear hval
  obtain ⟨xop, xat, xnm, xfd, xn, xref, xA, xk, xc, rfl⟩ := hr.form
  obtain ⟨yop, yat, ynm, yfd, yn, yref, yA, yk, yc, rfl⟩ := hry.form
  have hglt := hl.blk.lt
  have hbase := hl.low
  have hblt : b < w.heap.size := by omega
  have d0 := hc 0 _ rfl
  have d1 := hc 1 _ rfl
  have d2 := hc 2 _ rfl
  have d3 := hc 3 _ rfl
  have d4 := hc 4 _ rfl
  have d5 := hc 5 _ rfl
  have d6 := hc 6 _ rfl
  have d7 := hc 7 _ rfl
  have m0 := hd 0 _ rfl
  have m1 := hd 1 _ rfl
  have m2 := hd 2 _ rfl
  have m3 := hd 3 _ rfl
  have m4 := hd 4 _ rfl
  have m5 := hd 5 _ rfl
  have m6 := hd 6 _ rfl
  have m7 := hd 7 _ rfl
  simp only [Nat.add_zero, Nat.mul_zero, Nat.mul_one, Nat.add_assoc, Nat.reduceAdd] at d0 d1 d2 d3 d4 d5 d6 d7 m0 m1 m2 m3 m4 m5 m6 m7
  clear hc hd
  have hk1 : (0 : Int) < (t.length : Int) + 1 + 1 := by omega
  have hk2 : (1 : Int) < (t.length : Int) + 1 + 1 := by omega
  have hp := EV.lower_len s x r
  have hq := EV.lower_regs s x r
  unfold SV.cells
  go_enter Try.func12, Try.ntmps12
  go_wp2_with fail
  refine (HV.out _ g base av r s l _ ((hl.alloc _).alloc _) ((hr.alloc hbase _).alloc (by simp; omega) _) (by omega) hr0 (by omega)).mono ?_
  rintro e w1 ⟨rfl, av1, hl1, hs1⟩
  have bS := hs1.blk ((hl.alloc _).alloc _) ((Blk.newAt rfl).alloc _) (by decide) (.inl (by decide))
  have bI := hs1.blk ((hl.alloc _).alloc _) (Blk.newAt (by simp; rfl)) (by decide) (.inr (fun hc => by have := hl.own.lt _ hc; omega))
  have hS1 := (((LS.refl w g av).alloc _).alloc _).trans hs1
  have hz := hs1.keep.size
  simp at hz
  have hz0 : w.heap.size < w1.heap.size := by omega
  have hz1 : w.heap.size + 1 < w1.heap.size := by omega
  have hz2 : b < w1.heap.size := by omega
  have kb := fun i => hS1.old hl (a := ⟨b, i, none⟩) hb
  rw [← kb] at m0 m1 m2 m3 m4 m5 m6 m7
  have KB := Lib.hid kb
  clear kb d0 d1 d2 d3 d4 d5 d6 d7
  have s6 := bS.cell 6
  have i4 := bI.cell 4
  have f4 := bI.frozen 4
  simp at s6 i4
  have hS1' := hS1
  generalize hP : x.lower s r = P at *
  obtain ⟨P1, P2, P3⟩ := P
  have HP := Lib.hid hP
  clear hP
  simp only at hl1 hp hq
  have hry1 := hry.step hl hS1
  go_wp2_with fail
  have hneI : av1.ownBlock ≠ some (w.heap.size + 1) := fun hc => by
    rcases hs1.fresh _ hc with h | h
    · have := hl.own.lt _ h; omega
    · simp at h; try omega
  have hlB := hl1.setOther bI (by decide) (.inr hneI) 4 (.int .i64 P2)
  have hyB : Rep (w1.setCell ⟨w.heap.size + 1, 4, none⟩ (.int .i64 P2)) base y _ := hry1.kept ((Keep.refl w1 (fun b => b = w.heap.size + 1)).setCell ⟨w.heap.size + 1, 4, none⟩ (fun _ => rfl) _) hl1.low (fun k hk hc => by have : k = w.heap.size + 1 := hc; omega)
  refine (HVy.out _ g base av1 P3 s (l ++ P1) _ hlB hyB (by simp; omega) (by omega) (by omega)).mono ?_
  rintro e w2 ⟨rfl, av2, hl2, hs2⟩
  have bI2 := hs2.blk hlB (bI.set 4 (.int .i64 P2)) (by decide) (.inr hneI)
  have hy0 := hs2.keep.size
  simp at hy0
  have hy1 : w.heap.size < w2.heap.size := by omega
  have hy2 : w.heap.size + 1 < w2.heap.size := by omega
  have hS2 := (hS1.setNew ⟨w.heap.size + 1, 4, none⟩ (by simp) (.int .i64 P2)).trans hs2
  clear m0 m1 m2 m3 m4 m5 m6 m7 s6 i4 f4
  have i0 := bI2.cell 0
  have i1 := bI2.cell 1
  have i2 := bI2.cell 2
  have i3 := bI2.cell 3
  have i4 := bI2.cell 4
  have i5 := bI2.cell 5
  have i6 := bI2.cell 6
  have i7 := bI2.cell 7
  have i8 := bI2.cell 8
  have f5 := bI2.frozen 5
  simp at i0 i1 i2 i3 i4 i5 i6 i7 i8
  have hp' := EV.lower_len s y P3
  have hq' := EV.lower_regs s y P3
  generalize hP : y.lower s P3 = P at *
  obtain ⟨R1, R2, R3⟩ := P
  have HR := Lib.hid hP
  clear hP
  simp only at hl2 hp' hq'
  have hneI2 : av2.ownBlock ≠ some (w.heap.size + 1) := fun hc => by
    rcases hs2.fresh _ hc with h | h
    · exact hneI h
    · simp at h; try omega
  go_wp2_with fail
  have hlC := hl2.setOther bI2 (by decide) (.inr hneI2) 5 (.int .i64 R2)
  refine (add_one _ g w2.heap.size base av2 R3 s (l ++ P1 ++ R1) _ _ _ _ _ _ _ _ _ _ (hlC.alloc _) (Blk.newAt (by simp)) (by simp; omega)).mono ?_
  rintro e w3 ⟨rfl, av3, hl3, hs3⟩
  go_wp2_with fail
  go_end0
  exact ⟨rfl, av3, by simpa [setL, HC.out, HP.out, HR.out] using hl3, ((hS2.setNew ⟨w.heap.size + 1, 5, none⟩ (by simp) (.int .i64 R2)).alloc _).trans hs3⟩

theorem set_any : DoesSaid 12 setPre (fun st => sizes st.es + 1) setL := by
  rintro w g base av r s l ⟨op, line, var, addr, count, ty, es, func, reg, next, els⟩ A c hl hes ⟨x, t, hx, hok, hy⟩ hn hr0 hr1 _
  simp only at hx hes hn hr1 hy
  subst hx
  simp only [sizes, List.map_cons, List.sum_cons] at hn hr1
  by_cases hc : count = 0
  · subst hc
    exact set_plain w g base av r s l op line var addr ty func reg next els x t A c hl hes hok (by omega) hr0 (by omega)
  · obtain ⟨y, u, rfl, hoky⟩ := hy hc
    simp only [List.map_cons, List.sum_cons] at hn hr1
    exact set_cell w g base av r s l op line var addr count ty func reg next els x y u A c hl hes hok hoky hc (by omega) hr0 (by omega)
end Go.Proofs.Ytekciedoldiieaa

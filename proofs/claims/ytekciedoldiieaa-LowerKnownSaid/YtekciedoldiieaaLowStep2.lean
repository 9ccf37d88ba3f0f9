/- The methods out, branch of package lower: the value of the first expression, and an instruction. -/
import Derived.Test.YtekciedoldiieaaLowStep
namespace Go.Proofs.Ytekciedoldiieaa
open Go.RowKit

/-- The instructions of a StepOut, a StepIf. -/
def outL (st : SV) (r s : Int) : List I9 × Int :=
  match st.es with
  | [] => ([], r)
  | x :: _ => ((x.lower s r).1 ++ [⟨10, 0, 0, 0, (x.lower s r).2.1, 0, st.reg, 0, s⟩], (x.lower s r).2.2)
def ifL (st : SV) (r s : Int) : List I9 × Int :=
  match st.es with
  | [] => ([], r)
  | x :: _ => ((x.lower s r).1 ++ [⟨16, 0, 0, 0, (x.lower s r).2.1, 0, st.els, 0, s⟩], (x.lower s r).2.2)
def sizes (es : List EV) : Nat := (es.map EV.size).sum

set_option maxRecDepth 100000 in
set_option maxHeartbeats 6400000 in
theorem out_any : DoesSaid 15 (fun st => ∃ x t, st.es = x :: t ∧ x.ok) (fun st => sizes st.es + 1) outL := by
  rintro w g base av r s l ⟨op, line, var, addr, count, ty, es, func, reg, next, els⟩ A c hl hes ⟨x, t, hx, hok⟩ hn hr0 hr1 _
  simp only at hx hes hn hr1
  subst hx
  obtain ⟨b, o, rfl, hb, hall⟩ := hes (by simp)
  obtain ⟨cs, hr, hc⟩ := hall 0 x rfl
  clear hall hes
  have hval := value_any x hok
  have HV := Lib.hid hval
  clear hval
  simp only [sizes, List.map_cons, List.sum_cons] at hn hr1
  obtain ⟨xop, xat, xnm, xfd, xn, xref, xA, xk, xc, rfl⟩ := hr.form
  have hglt := hl.blk.lt
  have hbase := hl.low
  have hblt : b < w.heap.size := by omega
  have d0 := hc 0 _ rfl
  have d1 := hc 1 _ rfl
  have d2 := hc 2 _ rfl
  have d3 := hc 3 _ rfl
  have d4 := hc 4 _ rfl
  have d5 := hc 5 _ rfl
  have d6 := hc 6 _ rfl
  have d7 := hc 7 _ rfl
  simp only [Nat.add_zero, Nat.mul_zero] at d0 d1 d2 d3 d4 d5 d6 d7
  clear hc
  have hk1 : (0 : Int) < (t.length : Int) + 1 := by omega
  have hp := EV.lower_len s x r
  unfold SV.cells
  go_enter Try.func15, Try.ntmps15
  go_wp2_with fail
  go_region_held3 (fun w' => w'.cell? ⟨w.heap.size, 6, none⟩ = some (.slice (some ⟨b, o, none⟩) (t.length + 1) c) ∧ w'.cell? ⟨w.heap.size, 8, none⟩ = some (.int .i64 reg) ∧ w'.cell? ⟨b, o, none⟩ = some (.int .i64 xop) ∧ w'.cell? ⟨b, o + 1, none⟩ = some (.int .i64 xat) ∧ w'.cell? ⟨b, o + 2, none⟩ = some (.string xnm) ∧ w'.cell? ⟨b, o + 3, none⟩ = some (.string xfd) ∧ w'.cell? ⟨b, o + 4, none⟩ = some (.int .i64 xn) ∧ w'.cell? ⟨b, o + 5, none⟩ = some (.int .i64 x.ty) ∧ w'.cell? ⟨b, o + 6, none⟩ = some (.int .i64 xref) ∧ w'.cell? ⟨b, o + 7, none⟩ = some (.slice xA xk xc))
    (first
      | (go_keep; done)
      | (simp only [s6, s8, true_and]; exact ⟨(kb _).trans d0, (kb _).trans d1, (kb _).trans d2, (kb _).trans d3, (kb _).trans d4, (kb _).trans d5, (kb _).trans d6, (kb _).trans d7⟩)
      | (simp only [cell2, s6, s8, true_and]; exact ⟨(kc _).trans d0, (kc _).trans d1, (kc _).trans d2, (kc _).trans d3, (kc _).trans d4, (kc _).trans d5, (kc _).trans d6, (kc _).trans d7⟩))
    (first
      | (go_at_call 22; refine (HV.out _ g base av r s l _ (hl.alloc _).drew (hr.alloc hbase _).drew (by omega) hr0 (by omega)).mono ?_; rintro e w1 ⟨rfl, av1, hl1, hs1⟩; have bS := hs1.blk (hl.alloc _).drew (Blk.newAt rfl).drew (by decide) (.inl (by decide)); have s6 := bS.cell 6; have s8 := bS.cell 8; simp at s6 s8; have hS1 := ((LS.refl w g av).alloc _).drew.trans hs1; have hz := hs1.keep.size; simp at hz; have hz0 : w.heap.size < w1.heap.size := (by omega); have kb := (fun i => hS1.old hl (a := ⟨b, i, none⟩) hb); have hblt1 : b < w1.heap.size := (by omega))
      | (go_at_call 11; refine (add_one _ g w1.heap.size base av1 _ s _ _ _ _ _ _ _ _ _ _ _ (hl1.alloc _) (Blk.newAt rfl) (by simp; omega)).mono ?_; rintro e w2 ⟨rfl, av2, hl2, hs2⟩; have bS2 := hs2.blk (hl1.alloc _) (bS.alloc _) (by decide) (.inl (by decide)); clear s6 s8; have s6 := bS2.cell 6; have s8 := bS2.cell 8; simp at s6 s8; have hS2 := (hS1.alloc _).trans hs2; clear kb; have kb := (fun i => hS2.old hl (a := ⟨b, i, none⟩) hb)))
  all_goals
    go_wp2_with fail
    go_end0
    exact ⟨rfl, av2, by simpa [outL] using hl2, hS2⟩

set_option maxRecDepth 100000 in
set_option maxHeartbeats 6400000 in
theorem if_any : DoesSaid 16 (fun st => ∃ x t, st.es = x :: t ∧ x.ok) (fun st => sizes st.es + 1) ifL := by
  rintro w g base av r s l ⟨op, line, var, addr, count, ty, es, func, reg, next, els⟩ A c hl hes ⟨x, t, hx, hok⟩ hn hr0 hr1 _
  simp only at hx hes hn hr1
  subst hx
  obtain ⟨b, o, rfl, hb, hall⟩ := hes (by simp)
  obtain ⟨cs, hr, hc⟩ := hall 0 x rfl
  clear hall hes
  have hval := value_any x hok
  have HV := Lib.hid hval
  clear hval
  simp only [sizes, List.map_cons, List.sum_cons] at hn hr1
  obtain ⟨xop, xat, xnm, xfd, xn, xref, xA, xk, xc, rfl⟩ := hr.form
  have hglt := hl.blk.lt
  have hbase := hl.low
  have hblt : b < w.heap.size := by omega
  have d0 := hc 0 _ rfl
  have d1 := hc 1 _ rfl
  have d2 := hc 2 _ rfl
  have d3 := hc 3 _ rfl
  have d4 := hc 4 _ rfl
  have d5 := hc 5 _ rfl
  have d6 := hc 6 _ rfl
  have d7 := hc 7 _ rfl
  simp only [Nat.add_zero, Nat.mul_zero] at d0 d1 d2 d3 d4 d5 d6 d7
  clear hc
  have hk1 : (0 : Int) < (t.length : Int) + 1 := by omega
  have hp := EV.lower_len s x r
  unfold SV.cells
  go_enter Try.func16, Try.ntmps16
  go_wp2_with fail
  go_region_held3 (fun w' => w'.cell? ⟨w.heap.size, 6, none⟩ = some (.slice (some ⟨b, o, none⟩) (t.length + 1) c) ∧ w'.cell? ⟨w.heap.size, 10, none⟩ = some (.int .i64 els) ∧ w'.cell? ⟨b, o, none⟩ = some (.int .i64 xop) ∧ w'.cell? ⟨b, o + 1, none⟩ = some (.int .i64 xat) ∧ w'.cell? ⟨b, o + 2, none⟩ = some (.string xnm) ∧ w'.cell? ⟨b, o + 3, none⟩ = some (.string xfd) ∧ w'.cell? ⟨b, o + 4, none⟩ = some (.int .i64 xn) ∧ w'.cell? ⟨b, o + 5, none⟩ = some (.int .i64 x.ty) ∧ w'.cell? ⟨b, o + 6, none⟩ = some (.int .i64 xref) ∧ w'.cell? ⟨b, o + 7, none⟩ = some (.slice xA xk xc))
    (first
      | (go_keep; done)
      | (simp only [s6, s8, true_and]; exact ⟨(kb _).trans d0, (kb _).trans d1, (kb _).trans d2, (kb _).trans d3, (kb _).trans d4, (kb _).trans d5, (kb _).trans d6, (kb _).trans d7⟩)
      | (simp only [cell2, s6, s8, true_and]; exact ⟨(kc _).trans d0, (kc _).trans d1, (kc _).trans d2, (kc _).trans d3, (kc _).trans d4, (kc _).trans d5, (kc _).trans d6, (kc _).trans d7⟩))
    (first
      | (go_at_call 22; refine (HV.out _ g base av r s l _ (hl.alloc _).drew (hr.alloc hbase _).drew (by omega) hr0 (by omega)).mono ?_; rintro e w1 ⟨rfl, av1, hl1, hs1⟩; have bS := hs1.blk (hl.alloc _).drew (Blk.newAt rfl).drew (by decide) (.inl (by decide)); have s6 := bS.cell 6; have s8 := bS.cell 10; simp at s6 s8; have hS1 := ((LS.refl w g av).alloc _).drew.trans hs1; have hz := hs1.keep.size; simp at hz; have hz0 : w.heap.size < w1.heap.size := (by omega); have kb := (fun i => hS1.old hl (a := ⟨b, i, none⟩) hb); have hblt1 : b < w1.heap.size := (by omega))
      | (go_at_call 11; refine (add_one _ g w1.heap.size base av1 _ s _ _ _ _ _ _ _ _ _ _ _ (hl1.alloc _) (Blk.newAt rfl) (by simp; omega)).mono ?_; rintro e w2 ⟨rfl, av2, hl2, hs2⟩; have bS2 := hs2.blk (hl1.alloc _) (bS.alloc _) (by decide) (.inl (by decide)); clear s6 s8; have s6 := bS2.cell 6; have s8 := bS2.cell 10; simp at s6 s8; have hS2 := (hS1.alloc _).trans hs2; clear kb; have kb := (fun i => hS2.old hl (a := ⟨b, i, none⟩) hb)))
  all_goals
    go_wp2_with fail
    go_end0
    exact ⟨rfl, av2, by simpa [ifL] using hl2, hS2⟩

end Go.Proofs.Ytekciedoldiieaa

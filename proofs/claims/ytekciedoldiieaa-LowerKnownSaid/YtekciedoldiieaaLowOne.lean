/- The method one of package lower: the instructions of a step of each kind. Conditions: the step has as many expressions as its kind says; fewer than 10^12 instructions. -/
import Derived.Test.YtekciedoldiieaaLowBack
import Derived.Test.YtekciedoldiieaaMaps
namespace Go.Proofs.Ytekciedoldiieaa
open Go.RowKit

/-- The jump to the next step. -/
def jumpL (st : SV) (s : Int) : List I9 := if st.next = s + 1 then [] else [⟨15, 0, 0, 0, 0, 0, st.next, 0, s⟩]
/-- What a step does, by kinds. -/
def bodyL (st : SV) (r s : Int) : List I9 × Int :=
  if st.op = 0 then setL st r s else if st.op = 1 then callL st r s else if st.op = 2 then inL st r s else if st.op = 3 then outL st r s else if st.op = 4 then ifL st r s
  else if st.op = 5 then ([⟨17, 0, 0, 0, 0, 0, 1, 0, s⟩], r) else if st.op = 6 then ([⟨17, 0, 0, 0, 0, 0, -1, 0, s⟩], r) else if st.op = 8 then ([⟨19, 0, 0, 0, 0, 0, 0, 0, s⟩], r)
  else if st.op = 9 ∨ st.op = 10 then backL st r s else ([], r)
def oneL (st : SV) (r s : Int) : List I9 × Int :=
  (⟨if st.op = 7 then 18 else 0, 0, 0, 0, 0, 0, s, 0, s⟩ :: ((bodyL st r s).1 ++ (if st.op = 8 ∨ st.op = 9 ∨ st.op = 10 then [] else jumpL st s)), (bodyL st r s).2)
/-- Has it as many expressions as its kind says? -/
def SV.ok (st : SV) : Prop :=
  (st.op = 0 ∧ setPre st) ∨ (st.op = 1 ∧ (∀ e ∈ st.es, e.ok) ∧ st.es.length < 1000000000000) ∨ st.op = 2 ∨ ((st.op = 3 ∨ st.op = 4) ∧ ∃ x t, st.es = x :: t ∧ x.ok) ∨ st.op = 5 ∨ st.op = 6 ∨ st.op = 7 ∨ st.op = 8 ∨
  ((st.op = 9 ∨ st.op = 10) ∧ (st.es = [] ∨ ∃ x, st.es = [x] ∧ x.ok))
/-- How many instructions, registers there come at most. -/
def SV.most (st : SV) : Nat := room st.es + 6
theorem sizes_le (es : List EV) : sizes es ≤ room es := by
  unfold sizes room
  induction es with
  | nil => simp
  | cons x t ih => simp; omega

theorem argsL_len (s : Int) : ∀ (es : List EV) (i r : Int), (argsL s es i r).1.length ≤ room es
  | [], _, _ => by simp [argsL]
  | x :: t, i, r => by
    have h1 := EV.lower_len s x r
    have h2 := argsL_len s t (i + 1) (x.lower s r).2.2
    simp only [argsL, room, List.map_cons, List.sum_cons, List.length_append, List.length_cons] at *
    omega
theorem setL_len (st : SV) (r s : Int) : (setL st r s).1.length ≤ room st.es + 4 := by
  unfold setL
  rcases st.es with _ | ⟨x, t⟩
  · simp
  · have h1 := EV.lower_len s x r
    simp only [room, List.map_cons, List.sum_cons]
    split
    · simp; omega
    · rcases t with _ | ⟨y, u⟩
      · simp
      · have h2 := EV.lower_len s y (x.lower s r).2.2
        simp only [List.map_cons, List.sum_cons, List.length_append, List.length_cons, List.length_nil]
        omega
theorem callL_len (st : SV) (r s : Int) : (callL st r s).1.length ≤ room st.es + 4 := by
  have h := argsL_len s st.es 0 r
  unfold callL resL
  simp only [List.length_append, List.length_cons]
  repeat' split
  all_goals simp; omega
theorem inL_len (st : SV) (r s : Int) : (inL st r s).1.length ≤ room st.es + 4 := by
  unfold inL
  split <;> simp <;> omega
theorem outL_len (st : SV) (r s : Int) : (outL st r s).1.length ≤ room st.es + 4 := by
  unfold outL
  rcases st.es with _ | ⟨x, t⟩
  · simp
  · have h1 := EV.lower_len s x r
    simp only [room, List.map_cons, List.sum_cons, List.length_append, List.length_cons, List.length_nil]
    omega
theorem ifL_len (st : SV) (r s : Int) : (ifL st r s).1.length ≤ room st.es + 4 := by
  unfold ifL
  rcases st.es with _ | ⟨x, t⟩
  · simp
  · have h1 := EV.lower_len s x r
    simp only [room, List.map_cons, List.sum_cons, List.length_append, List.length_cons, List.length_nil]
    omega
theorem backL_len (st : SV) (r s : Int) : (backL st r s).1.length ≤ room st.es + 4 := by
  have h1 := EV.lower_len s (backE st.es) r
  have h2 : (backE st.es).size ≤ room st.es + 1 := by
    unfold backE room
    rcases st.es with _ | ⟨x, t⟩
    · simp [EV.size]
    · simp; omega
  unfold backL
  simp only [List.length_append, List.length_cons, List.length_nil]
  omega

set_option maxRecDepth 100000 in
set_option maxHeartbeats 6400000 in
theorem one_0 (w : World) (g base : Nat) (av : Value) (r s : Int) (l : List I9) (line var addr count ty func reg next els : Int) (es : List EV) (A : Option Addr) (c : Nat)
    (hl : Low w g base av r s l) (hes : RepEs w base A es) (hpre : setPre ⟨0, line, var, addr, count, ty, es, func, reg, next, els⟩) (hn : l.length + SV.most ⟨0, line, var, addr, count, ty, es, func, reg, next, els⟩ < 1000000000000) (hr0 : 0 ≤ r) (hr1 : r + SV.most ⟨0, line, var, addr, count, ty, es, func, reg, next, els⟩ < 1000000000000000) (hcap : es.length ≤ c) (hs0 : 0 ≤ s) (hs1 : s < 1000000000000) :
    Calls Try.prog 10 #[.pointer (some ⟨g, 0, none⟩), .agg (SV.cells ⟨0, line, var, addr, count, ty, es, func, reg, next, els⟩ A c)] w fun e w' =>
    e = .returned (.tuple #[]) ∧ ∃ av', Low w' g base av' (oneL ⟨0, line, var, addr, count, ty, es, func, reg, next, els⟩ r s).2 s (l ++ (oneL ⟨0, line, var, addr, count, ty, es, func, reg, next, els⟩ r s).1) ∧ LS w w' g av av' := by
  have hdo := fun W AV L hl hes hn => set_any W g base AV r s L ⟨0, line, var, addr, count, ty, es, func, reg, next, els⟩ A c hl hes hpre hn hr0
  simp only [SV.cells] at hdo
  have HDO := Lib.hid hdo
  clear hdo
  have hlen := setL_len ⟨0, line, var, addr, count, ty, es, func, reg, next, els⟩ r s
  have hmost := sizes_le es
  simp only [SV.most] at hn hr1
  simp only at hlen
  have hglt := hl.blk.lt
  have hbase := hl.low
  have l2 := hl.blk.cell 2
  simp at l2
  have hmm := @run_makeMap Try.prog
  have hins := fun W es c n v h => run_mapUpdate_new (P := Try.prog) 48 3 44 Try.underlying48 .i64 Try.underlying3 W es c n v h
  have hlk := fun W => run_lookup_last (P := Try.prog) 48 3 44 Try.underlying48 .i64 Try.underlying3 W #[⟨.int .i64 0, .func (.func 12) #[.pointer (some ⟨g, 0, none⟩)] #[], 0⟩, ⟨.int .i64 1, .func (.func 13) #[.pointer (some ⟨g, 0, none⟩)] #[], 1⟩, ⟨.int .i64 2, .func (.func 14) #[.pointer (some ⟨g, 0, none⟩)] #[], 2⟩, ⟨.int .i64 3, .func (.func 15) #[.pointer (some ⟨g, 0, none⟩)] #[], 3⟩, ⟨.int .i64 4, .func (.func 16) #[.pointer (some ⟨g, 0, none⟩)] #[], 4⟩, ⟨.int .i64 5, .func (.func 17) #[.pointer (some ⟨g, 0, none⟩)] #[], 5⟩, ⟨.int .i64 6, .func (.func 18) #[.pointer (some ⟨g, 0, none⟩)] #[], 6⟩, ⟨.int .i64 8, .func (.func 19) #[.pointer (some ⟨g, 0, none⟩)] #[], 7⟩, ⟨.int .i64 9, .func (.func 20) #[.pointer (some ⟨g, 0, none⟩)] #[], 8⟩, ⟨.int .i64 10, .func (.func 20) #[.pointer (some ⟨g, 0, none⟩)] #[], 9⟩] 10 0 0 _ rfl
  unfold SV.cells
  go_enter Try.func10, Try.ntmps10
  go_wp2_with fail
  refine (add_one _ g (w.heap.size + 2) base av r s l _ _ _ _ _ _ _ _ _ _ (((hl.alloc _).alloc _).alloc _) (Blk.newAt (by simp)) (by omega)).mono ?_
  rintro e w1 ⟨rfl, av1, hl1, hs1⟩
  have bS := hs1.blk (((hl.alloc _).alloc _).alloc _) (((Blk.newAt rfl).alloc _).alloc _) (by decide) (.inl (by decide))
  have hS1 := ((((LS.refl w g av).alloc _).alloc _).alloc _).trans hs1
  have hz := hs1.keep.size
  simp at hz
  have hz0 : w.heap.size < w1.heap.size := by omega
  have s0 := bS.cell 0
  have s1 := bS.cell 1
  have s2 := bS.cell 2
  have s3 := bS.cell 3
  have s4 := bS.cell 4
  have s5 := bS.cell 5
  have s6 := bS.cell 6
  have s7 := bS.cell 7
  have s8 := bS.cell 8
  have s9 := bS.cell 9
  have s10 := bS.cell 10
  simp at s0 s1 s2 s3 s4 s5 s6 s7 s8 s9 s10
  go_wp2_with (first | (rw [hins]; rotate_left; rfl))
  have hl1' := hl1.alloc (.map #[⟨.int .i64 0, .func (.func 12) #[.pointer (some ⟨g, 0, none⟩)] #[], 0⟩, ⟨.int .i64 1, .func (.func 13) #[.pointer (some ⟨g, 0, none⟩)] #[], 1⟩, ⟨.int .i64 2, .func (.func 14) #[.pointer (some ⟨g, 0, none⟩)] #[], 2⟩, ⟨.int .i64 3, .func (.func 15) #[.pointer (some ⟨g, 0, none⟩)] #[], 3⟩, ⟨.int .i64 4, .func (.func 16) #[.pointer (some ⟨g, 0, none⟩)] #[], 4⟩, ⟨.int .i64 5, .func (.func 17) #[.pointer (some ⟨g, 0, none⟩)] #[], 5⟩, ⟨.int .i64 6, .func (.func 18) #[.pointer (some ⟨g, 0, none⟩)] #[], 6⟩, ⟨.int .i64 8, .func (.func 19) #[.pointer (some ⟨g, 0, none⟩)] #[], 7⟩, ⟨.int .i64 9, .func (.func 20) #[.pointer (some ⟨g, 0, none⟩)] #[], 8⟩, ⟨.int .i64 10, .func (.func 20) #[.pointer (some ⟨g, 0, none⟩)] #[], 9⟩] 10)
  have hS1' := hS1.alloc (.map #[⟨.int .i64 0, .func (.func 12) #[.pointer (some ⟨g, 0, none⟩)] #[], 0⟩, ⟨.int .i64 1, .func (.func 13) #[.pointer (some ⟨g, 0, none⟩)] #[], 1⟩, ⟨.int .i64 2, .func (.func 14) #[.pointer (some ⟨g, 0, none⟩)] #[], 2⟩, ⟨.int .i64 3, .func (.func 15) #[.pointer (some ⟨g, 0, none⟩)] #[], 3⟩, ⟨.int .i64 4, .func (.func 16) #[.pointer (some ⟨g, 0, none⟩)] #[], 4⟩, ⟨.int .i64 5, .func (.func 17) #[.pointer (some ⟨g, 0, none⟩)] #[], 5⟩, ⟨.int .i64 6, .func (.func 18) #[.pointer (some ⟨g, 0, none⟩)] #[], 6⟩, ⟨.int .i64 8, .func (.func 19) #[.pointer (some ⟨g, 0, none⟩)] #[], 7⟩, ⟨.int .i64 9, .func (.func 20) #[.pointer (some ⟨g, 0, none⟩)] #[], 8⟩, ⟨.int .i64 10, .func (.func 20) #[.pointer (some ⟨g, 0, none⟩)] #[], 9⟩] 10)
  have hes' := hes.step hl hS1'
  refine (HDO.out _ av1 _ hl1' hes' (by simp; omega) (by omega) (by simpa using hcap)).mono ?_
  rintro e w2 ⟨rfl, av2, hl2, hs2⟩
  have bS2 := hs2.blk hl1' (bS.alloc _) (by decide) (.inl (by decide))
  have hS2 := hS1'.trans hs2
  clear s0 s1 s2 s3 s4 s5 s6 s7 s8 s9 s10
  have s0 := bS2.cell 0
  have s1 := bS2.cell 1
  have s2 := bS2.cell 2
  have s3 := bS2.cell 3
  have s4 := bS2.cell 4
  have s5 := bS2.cell 5
  have s6 := bS2.cell 6
  have s7 := bS2.cell 7
  have s8 := bS2.cell 8
  have s9 := bS2.cell 9
  have s10 := bS2.cell 10
  simp at s0 s1 s2 s3 s4 s5 s6 s7 s8 s9 s10
  have q2 := hl2.blk.cell 2
  simp at q2
  have hglt2 := hl2.blk.lt
  have hz2 := hs2.keep.size
  simp at hz2
  have hz3 : w.heap.size < w2.heap.size := by omega
  by_cases hnx : next = s + 1
  · have t1 : (next == s + 1) = true := by simpa using hnx
    have t2 : (next != s + 1) = false := by simpa using hnx
    have HNX := Lib.hid hnx
    clear hnx
    go_wp2_with fail
    go_quiet (fail)
    go_wp2_with fail
    go_end0
    exact ⟨rfl, av2, by simpa [oneL, bodyL, jumpL, HNX.out] using hl2.drewN _, hS2.drewN _⟩
  · have t1 : (next == s + 1) = false := by simpa using hnx
    have t2 : (next != s + 1) = true := by simpa using hnx
    have HNX := Lib.hid hnx
    clear hnx
    go_wp2_with fail
    go_quiet (fail)
    go_wp2_with fail
    refine (add_one _ g w2.heap.size base av2 _ s _ _ _ _ _ _ _ _ _ _ _ ((hl2.drewN _).alloc _) (Blk.newAt rfl) (by simp; omega)).mono ?_
    rintro e w3 ⟨rfl, av3, hl3, hs3⟩
    go_wp2_with fail
    go_end0
    exact ⟨rfl, av3, by simpa [oneL, bodyL, jumpL, HNX.out] using hl3, ((hS2.drewN _).alloc _).trans hs3⟩

set_option maxRecDepth 100000 in
set_option maxHeartbeats 6400000 in
theorem one_1 (w : World) (g base : Nat) (av : Value) (r s : Int) (l : List I9) (line var addr count ty func reg next els : Int) (es : List EV) (A : Option Addr) (c : Nat)
    (hl : Low w g base av r s l) (hes : RepEs w base A es) (hpre : (∀ e ∈ es, e.ok) ∧ es.length < 1000000000000) (hn : l.length + SV.most ⟨1, line, var, addr, count, ty, es, func, reg, next, els⟩ < 1000000000000) (hr0 : 0 ≤ r) (hr1 : r + SV.most ⟨1, line, var, addr, count, ty, es, func, reg, next, els⟩ < 1000000000000000) (hcap : es.length ≤ c) (hs0 : 0 ≤ s) (hs1 : s < 1000000000000) :
    Calls Try.prog 10 #[.pointer (some ⟨g, 0, none⟩), .agg (SV.cells ⟨1, line, var, addr, count, ty, es, func, reg, next, els⟩ A c)] w fun e w' =>
    e = .returned (.tuple #[]) ∧ ∃ av', Low w' g base av' (oneL ⟨1, line, var, addr, count, ty, es, func, reg, next, els⟩ r s).2 s (l ++ (oneL ⟨1, line, var, addr, count, ty, es, func, reg, next, els⟩ r s).1) ∧ LS w w' g av av' := by
  have hdo := fun W AV L hl hes hn => call_any W g base AV r s L ⟨1, line, var, addr, count, ty, es, func, reg, next, els⟩ A c hl hes hpre hn hr0
  simp only [SV.cells] at hdo
  have HDO := Lib.hid hdo
  clear hdo
  have hlen := callL_len ⟨1, line, var, addr, count, ty, es, func, reg, next, els⟩ r s
  have hmost := sizes_le es
  simp only [SV.most] at hn hr1
  simp only at hlen
  have hglt := hl.blk.lt
  have hbase := hl.low
  have l2 := hl.blk.cell 2
  simp at l2
  have hmm := @run_makeMap Try.prog
  have hins := fun W es c n v h => run_mapUpdate_new (P := Try.prog) 48 3 44 Try.underlying48 .i64 Try.underlying3 W es c n v h
  have hlk := fun W => run_lookup_last (P := Try.prog) 48 3 44 Try.underlying48 .i64 Try.underlying3 W #[⟨.int .i64 0, .func (.func 12) #[.pointer (some ⟨g, 0, none⟩)] #[], 0⟩, ⟨.int .i64 1, .func (.func 13) #[.pointer (some ⟨g, 0, none⟩)] #[], 1⟩, ⟨.int .i64 2, .func (.func 14) #[.pointer (some ⟨g, 0, none⟩)] #[], 2⟩, ⟨.int .i64 3, .func (.func 15) #[.pointer (some ⟨g, 0, none⟩)] #[], 3⟩, ⟨.int .i64 4, .func (.func 16) #[.pointer (some ⟨g, 0, none⟩)] #[], 4⟩, ⟨.int .i64 5, .func (.func 17) #[.pointer (some ⟨g, 0, none⟩)] #[], 5⟩, ⟨.int .i64 6, .func (.func 18) #[.pointer (some ⟨g, 0, none⟩)] #[], 6⟩, ⟨.int .i64 8, .func (.func 19) #[.pointer (some ⟨g, 0, none⟩)] #[], 7⟩, ⟨.int .i64 9, .func (.func 20) #[.pointer (some ⟨g, 0, none⟩)] #[], 8⟩, ⟨.int .i64 10, .func (.func 20) #[.pointer (some ⟨g, 0, none⟩)] #[], 9⟩] 10 1 1 _ rfl
  unfold SV.cells
  go_enter Try.func10, Try.ntmps10
  go_wp2_with fail
  refine (add_one _ g (w.heap.size + 2) base av r s l _ _ _ _ _ _ _ _ _ _ (((hl.alloc _).alloc _).alloc _) (Blk.newAt (by simp)) (by omega)).mono ?_
  rintro e w1 ⟨rfl, av1, hl1, hs1⟩
  have bS := hs1.blk (((hl.alloc _).alloc _).alloc _) (((Blk.newAt rfl).alloc _).alloc _) (by decide) (.inl (by decide))
  have hS1 := ((((LS.refl w g av).alloc _).alloc _).alloc _).trans hs1
  have hz := hs1.keep.size
  simp at hz
  have hz0 : w.heap.size < w1.heap.size := by omega
  have s0 := bS.cell 0
  have s1 := bS.cell 1
  have s2 := bS.cell 2
  have s3 := bS.cell 3
  have s4 := bS.cell 4
  have s5 := bS.cell 5
  have s6 := bS.cell 6
  have s7 := bS.cell 7
  have s8 := bS.cell 8
  have s9 := bS.cell 9
  have s10 := bS.cell 10
  simp at s0 s1 s2 s3 s4 s5 s6 s7 s8 s9 s10
  go_wp2_with (first | (rw [hins]; rotate_left; rfl))
  have hl1' := hl1.alloc (.map #[⟨.int .i64 0, .func (.func 12) #[.pointer (some ⟨g, 0, none⟩)] #[], 0⟩, ⟨.int .i64 1, .func (.func 13) #[.pointer (some ⟨g, 0, none⟩)] #[], 1⟩, ⟨.int .i64 2, .func (.func 14) #[.pointer (some ⟨g, 0, none⟩)] #[], 2⟩, ⟨.int .i64 3, .func (.func 15) #[.pointer (some ⟨g, 0, none⟩)] #[], 3⟩, ⟨.int .i64 4, .func (.func 16) #[.pointer (some ⟨g, 0, none⟩)] #[], 4⟩, ⟨.int .i64 5, .func (.func 17) #[.pointer (some ⟨g, 0, none⟩)] #[], 5⟩, ⟨.int .i64 6, .func (.func 18) #[.pointer (some ⟨g, 0, none⟩)] #[], 6⟩, ⟨.int .i64 8, .func (.func 19) #[.pointer (some ⟨g, 0, none⟩)] #[], 7⟩, ⟨.int .i64 9, .func (.func 20) #[.pointer (some ⟨g, 0, none⟩)] #[], 8⟩, ⟨.int .i64 10, .func (.func 20) #[.pointer (some ⟨g, 0, none⟩)] #[], 9⟩] 10)
  have hS1' := hS1.alloc (.map #[⟨.int .i64 0, .func (.func 12) #[.pointer (some ⟨g, 0, none⟩)] #[], 0⟩, ⟨.int .i64 1, .func (.func 13) #[.pointer (some ⟨g, 0, none⟩)] #[], 1⟩, ⟨.int .i64 2, .func (.func 14) #[.pointer (some ⟨g, 0, none⟩)] #[], 2⟩, ⟨.int .i64 3, .func (.func 15) #[.pointer (some ⟨g, 0, none⟩)] #[], 3⟩, ⟨.int .i64 4, .func (.func 16) #[.pointer (some ⟨g, 0, none⟩)] #[], 4⟩, ⟨.int .i64 5, .func (.func 17) #[.pointer (some ⟨g, 0, none⟩)] #[], 5⟩, ⟨.int .i64 6, .func (.func 18) #[.pointer (some ⟨g, 0, none⟩)] #[], 6⟩, ⟨.int .i64 8, .func (.func 19) #[.pointer (some ⟨g, 0, none⟩)] #[], 7⟩, ⟨.int .i64 9, .func (.func 20) #[.pointer (some ⟨g, 0, none⟩)] #[], 8⟩, ⟨.int .i64 10, .func (.func 20) #[.pointer (some ⟨g, 0, none⟩)] #[], 9⟩] 10)
  have hes' := hes.step hl hS1'
  refine (HDO.out _ av1 _ hl1' hes' (by simp; omega) (by omega) (by simpa using hcap)).mono ?_
  rintro e w2 ⟨rfl, av2, hl2, hs2⟩
  have bS2 := hs2.blk hl1' (bS.alloc _) (by decide) (.inl (by decide))
  have hS2 := hS1'.trans hs2
  clear s0 s1 s2 s3 s4 s5 s6 s7 s8 s9 s10
  have s0 := bS2.cell 0
  have s1 := bS2.cell 1
  have s2 := bS2.cell 2
  have s3 := bS2.cell 3
  have s4 := bS2.cell 4
  have s5 := bS2.cell 5
  have s6 := bS2.cell 6
  have s7 := bS2.cell 7
  have s8 := bS2.cell 8
  have s9 := bS2.cell 9
  have s10 := bS2.cell 10
  simp at s0 s1 s2 s3 s4 s5 s6 s7 s8 s9 s10
  have q2 := hl2.blk.cell 2
  simp at q2
  have hglt2 := hl2.blk.lt
  have hz2 := hs2.keep.size
  simp at hz2
  have hz3 : w.heap.size < w2.heap.size := by omega
  by_cases hnx : next = s + 1
  · have t1 : (next == s + 1) = true := by simpa using hnx
    have t2 : (next != s + 1) = false := by simpa using hnx
    have HNX := Lib.hid hnx
    clear hnx
    go_wp2_with fail
    go_quiet (fail)
    go_wp2_with fail
    go_end0
    exact ⟨rfl, av2, by simpa [oneL, bodyL, jumpL, HNX.out] using hl2.drewN _, hS2.drewN _⟩
  · have t1 : (next == s + 1) = false := by simpa using hnx
    have t2 : (next != s + 1) = true := by simpa using hnx
    have HNX := Lib.hid hnx
    clear hnx
    go_wp2_with fail
    go_quiet (fail)
    go_wp2_with fail
    refine (add_one _ g w2.heap.size base av2 _ s _ _ _ _ _ _ _ _ _ _ _ ((hl2.drewN _).alloc _) (Blk.newAt rfl) (by simp; omega)).mono ?_
    rintro e w3 ⟨rfl, av3, hl3, hs3⟩
    go_wp2_with fail
    go_end0
    exact ⟨rfl, av3, by simpa [oneL, bodyL, jumpL, HNX.out] using hl3, ((hS2.drewN _).alloc _).trans hs3⟩

set_option maxRecDepth 100000 in
set_option maxHeartbeats 6400000 in
theorem one_2 (w : World) (g base : Nat) (av : Value) (r s : Int) (l : List I9) (line var addr count ty func reg next els : Int) (es : List EV) (A : Option Addr) (c : Nat)
    (hl : Low w g base av r s l) (hes : RepEs w base A es) (hpre : True) (hn : l.length + SV.most ⟨2, line, var, addr, count, ty, es, func, reg, next, els⟩ < 1000000000000) (hr0 : 0 ≤ r) (hr1 : r + SV.most ⟨2, line, var, addr, count, ty, es, func, reg, next, els⟩ < 1000000000000000) (hcap : es.length ≤ c) (hs0 : 0 ≤ s) (hs1 : s < 1000000000000) :
    Calls Try.prog 10 #[.pointer (some ⟨g, 0, none⟩), .agg (SV.cells ⟨2, line, var, addr, count, ty, es, func, reg, next, els⟩ A c)] w fun e w' =>
    e = .returned (.tuple #[]) ∧ ∃ av', Low w' g base av' (oneL ⟨2, line, var, addr, count, ty, es, func, reg, next, els⟩ r s).2 s (l ++ (oneL ⟨2, line, var, addr, count, ty, es, func, reg, next, els⟩ r s).1) ∧ LS w w' g av av' := by
  have hdo := fun W AV L hl hes hn => in_any W g base AV r s L ⟨2, line, var, addr, count, ty, es, func, reg, next, els⟩ A c hl hes trivial hn hr0
  simp only [SV.cells] at hdo
  have HDO := Lib.hid hdo
  clear hdo
  have hlen := inL_len ⟨2, line, var, addr, count, ty, es, func, reg, next, els⟩ r s
  have hmost := sizes_le es
  simp only [SV.most] at hn hr1
  simp only at hlen
  have hglt := hl.blk.lt
  have hbase := hl.low
  have l2 := hl.blk.cell 2
  simp at l2
  have hmm := @run_makeMap Try.prog
  have hins := fun W es c n v h => run_mapUpdate_new (P := Try.prog) 48 3 44 Try.underlying48 .i64 Try.underlying3 W es c n v h
  have hlk := fun W => run_lookup_last (P := Try.prog) 48 3 44 Try.underlying48 .i64 Try.underlying3 W #[⟨.int .i64 0, .func (.func 12) #[.pointer (some ⟨g, 0, none⟩)] #[], 0⟩, ⟨.int .i64 1, .func (.func 13) #[.pointer (some ⟨g, 0, none⟩)] #[], 1⟩, ⟨.int .i64 2, .func (.func 14) #[.pointer (some ⟨g, 0, none⟩)] #[], 2⟩, ⟨.int .i64 3, .func (.func 15) #[.pointer (some ⟨g, 0, none⟩)] #[], 3⟩, ⟨.int .i64 4, .func (.func 16) #[.pointer (some ⟨g, 0, none⟩)] #[], 4⟩, ⟨.int .i64 5, .func (.func 17) #[.pointer (some ⟨g, 0, none⟩)] #[], 5⟩, ⟨.int .i64 6, .func (.func 18) #[.pointer (some ⟨g, 0, none⟩)] #[], 6⟩, ⟨.int .i64 8, .func (.func 19) #[.pointer (some ⟨g, 0, none⟩)] #[], 7⟩, ⟨.int .i64 9, .func (.func 20) #[.pointer (some ⟨g, 0, none⟩)] #[], 8⟩, ⟨.int .i64 10, .func (.func 20) #[.pointer (some ⟨g, 0, none⟩)] #[], 9⟩] 10 2 2 _ rfl
  unfold SV.cells
  go_enter Try.func10, Try.ntmps10
  go_wp2_with fail
  refine (add_one _ g (w.heap.size + 2) base av r s l _ _ _ _ _ _ _ _ _ _ (((hl.alloc _).alloc _).alloc _) (Blk.newAt (by simp)) (by omega)).mono ?_
  rintro e w1 ⟨rfl, av1, hl1, hs1⟩
  have bS := hs1.blk (((hl.alloc _).alloc _).alloc _) (((Blk.newAt rfl).alloc _).alloc _) (by decide) (.inl (by decide))
  have hS1 := ((((LS.refl w g av).alloc _).alloc _).alloc _).trans hs1
  have hz := hs1.keep.size
  simp at hz
  have hz0 : w.heap.size < w1.heap.size := by omega
  have s0 := bS.cell 0
  have s1 := bS.cell 1
  have s2 := bS.cell 2
  have s3 := bS.cell 3
  have s4 := bS.cell 4
  have s5 := bS.cell 5
  have s6 := bS.cell 6
  have s7 := bS.cell 7
  have s8 := bS.cell 8
  have s9 := bS.cell 9
  have s10 := bS.cell 10
  simp at s0 s1 s2 s3 s4 s5 s6 s7 s8 s9 s10
  go_wp2_with (first | (rw [hins]; rotate_left; rfl))
  have hl1' := hl1.alloc (.map #[⟨.int .i64 0, .func (.func 12) #[.pointer (some ⟨g, 0, none⟩)] #[], 0⟩, ⟨.int .i64 1, .func (.func 13) #[.pointer (some ⟨g, 0, none⟩)] #[], 1⟩, ⟨.int .i64 2, .func (.func 14) #[.pointer (some ⟨g, 0, none⟩)] #[], 2⟩, ⟨.int .i64 3, .func (.func 15) #[.pointer (some ⟨g, 0, none⟩)] #[], 3⟩, ⟨.int .i64 4, .func (.func 16) #[.pointer (some ⟨g, 0, none⟩)] #[], 4⟩, ⟨.int .i64 5, .func (.func 17) #[.pointer (some ⟨g, 0, none⟩)] #[], 5⟩, ⟨.int .i64 6, .func (.func 18) #[.pointer (some ⟨g, 0, none⟩)] #[], 6⟩, ⟨.int .i64 8, .func (.func 19) #[.pointer (some ⟨g, 0, none⟩)] #[], 7⟩, ⟨.int .i64 9, .func (.func 20) #[.pointer (some ⟨g, 0, none⟩)] #[], 8⟩, ⟨.int .i64 10, .func (.func 20) #[.pointer (some ⟨g, 0, none⟩)] #[], 9⟩] 10)
  have hS1' := hS1.alloc (.map #[⟨.int .i64 0, .func (.func 12) #[.pointer (some ⟨g, 0, none⟩)] #[], 0⟩, ⟨.int .i64 1, .func (.func 13) #[.pointer (some ⟨g, 0, none⟩)] #[], 1⟩, ⟨.int .i64 2, .func (.func 14) #[.pointer (some ⟨g, 0, none⟩)] #[], 2⟩, ⟨.int .i64 3, .func (.func 15) #[.pointer (some ⟨g, 0, none⟩)] #[], 3⟩, ⟨.int .i64 4, .func (.func 16) #[.pointer (some ⟨g, 0, none⟩)] #[], 4⟩, ⟨.int .i64 5, .func (.func 17) #[.pointer (some ⟨g, 0, none⟩)] #[], 5⟩, ⟨.int .i64 6, .func (.func 18) #[.pointer (some ⟨g, 0, none⟩)] #[], 6⟩, ⟨.int .i64 8, .func (.func 19) #[.pointer (some ⟨g, 0, none⟩)] #[], 7⟩, ⟨.int .i64 9, .func (.func 20) #[.pointer (some ⟨g, 0, none⟩)] #[], 8⟩, ⟨.int .i64 10, .func (.func 20) #[.pointer (some ⟨g, 0, none⟩)] #[], 9⟩] 10)
  have hes' := hes.step hl hS1'
  refine (HDO.out _ av1 _ hl1' hes' (by simp; omega) (by omega) (by simpa using hcap)).mono ?_
  rintro e w2 ⟨rfl, av2, hl2, hs2⟩
  have bS2 := hs2.blk hl1' (bS.alloc _) (by decide) (.inl (by decide))
  have hS2 := hS1'.trans hs2
  clear s0 s1 s2 s3 s4 s5 s6 s7 s8 s9 s10
  have s0 := bS2.cell 0
  have s1 := bS2.cell 1
  have s2 := bS2.cell 2
  have s3 := bS2.cell 3
  have s4 := bS2.cell 4
  have s5 := bS2.cell 5
  have s6 := bS2.cell 6
  have s7 := bS2.cell 7
  have s8 := bS2.cell 8
  have s9 := bS2.cell 9
  have s10 := bS2.cell 10
  simp at s0 s1 s2 s3 s4 s5 s6 s7 s8 s9 s10
  have q2 := hl2.blk.cell 2
  simp at q2
  have hglt2 := hl2.blk.lt
  have hz2 := hs2.keep.size
  simp at hz2
  have hz3 : w.heap.size < w2.heap.size := by omega
  by_cases hnx : next = s + 1
  · have t1 : (next == s + 1) = true := by simpa using hnx
    have t2 : (next != s + 1) = false := by simpa using hnx
    have HNX := Lib.hid hnx
    clear hnx
    go_wp2_with fail
    go_quiet (fail)
    go_wp2_with fail
    go_end0
    exact ⟨rfl, av2, by simpa [oneL, bodyL, jumpL, HNX.out] using hl2.drewN _, hS2.drewN _⟩
  · have t1 : (next == s + 1) = false := by simpa using hnx
    have t2 : (next != s + 1) = true := by simpa using hnx
    have HNX := Lib.hid hnx
    clear hnx
    go_wp2_with fail
    go_quiet (fail)
    go_wp2_with fail
    refine (add_one _ g w2.heap.size base av2 _ s _ _ _ _ _ _ _ _ _ _ _ ((hl2.drewN _).alloc _) (Blk.newAt rfl) (by simp; omega)).mono ?_
    rintro e w3 ⟨rfl, av3, hl3, hs3⟩
    go_wp2_with fail
    go_end0
    exact ⟨rfl, av3, by simpa [oneL, bodyL, jumpL, HNX.out] using hl3, ((hS2.drewN _).alloc _).trans hs3⟩

set_option maxRecDepth 100000 in
set_option maxHeartbeats 6400000 in
theorem one_3 (w : World) (g base : Nat) (av : Value) (r s : Int) (l : List I9) (line var addr count ty func reg next els : Int) (es : List EV) (A : Option Addr) (c : Nat)
    (hl : Low w g base av r s l) (hes : RepEs w base A es) (hpre : ∃ x t, es = x :: t ∧ x.ok) (hn : l.length + SV.most ⟨3, line, var, addr, count, ty, es, func, reg, next, els⟩ < 1000000000000) (hr0 : 0 ≤ r) (hr1 : r + SV.most ⟨3, line, var, addr, count, ty, es, func, reg, next, els⟩ < 1000000000000000) (hcap : es.length ≤ c) (hs0 : 0 ≤ s) (hs1 : s < 1000000000000) :
    Calls Try.prog 10 #[.pointer (some ⟨g, 0, none⟩), .agg (SV.cells ⟨3, line, var, addr, count, ty, es, func, reg, next, els⟩ A c)] w fun e w' =>
    e = .returned (.tuple #[]) ∧ ∃ av', Low w' g base av' (oneL ⟨3, line, var, addr, count, ty, es, func, reg, next, els⟩ r s).2 s (l ++ (oneL ⟨3, line, var, addr, count, ty, es, func, reg, next, els⟩ r s).1) ∧ LS w w' g av av' := by
  have hdo := fun W AV L hl hes hn => out_any W g base AV r s L ⟨3, line, var, addr, count, ty, es, func, reg, next, els⟩ A c hl hes hpre hn hr0
  simp only [SV.cells] at hdo
  have HDO := Lib.hid hdo
  clear hdo
  have hlen := outL_len ⟨3, line, var, addr, count, ty, es, func, reg, next, els⟩ r s
  have hmost := sizes_le es
  simp only [SV.most] at hn hr1
  simp only at hlen
  have hglt := hl.blk.lt
  have hbase := hl.low
  have l2 := hl.blk.cell 2
  simp at l2
  have hmm := @run_makeMap Try.prog
  have hins := fun W es c n v h => run_mapUpdate_new (P := Try.prog) 48 3 44 Try.underlying48 .i64 Try.underlying3 W es c n v h
  have hlk := fun W => run_lookup_last (P := Try.prog) 48 3 44 Try.underlying48 .i64 Try.underlying3 W #[⟨.int .i64 0, .func (.func 12) #[.pointer (some ⟨g, 0, none⟩)] #[], 0⟩, ⟨.int .i64 1, .func (.func 13) #[.pointer (some ⟨g, 0, none⟩)] #[], 1⟩, ⟨.int .i64 2, .func (.func 14) #[.pointer (some ⟨g, 0, none⟩)] #[], 2⟩, ⟨.int .i64 3, .func (.func 15) #[.pointer (some ⟨g, 0, none⟩)] #[], 3⟩, ⟨.int .i64 4, .func (.func 16) #[.pointer (some ⟨g, 0, none⟩)] #[], 4⟩, ⟨.int .i64 5, .func (.func 17) #[.pointer (some ⟨g, 0, none⟩)] #[], 5⟩, ⟨.int .i64 6, .func (.func 18) #[.pointer (some ⟨g, 0, none⟩)] #[], 6⟩, ⟨.int .i64 8, .func (.func 19) #[.pointer (some ⟨g, 0, none⟩)] #[], 7⟩, ⟨.int .i64 9, .func (.func 20) #[.pointer (some ⟨g, 0, none⟩)] #[], 8⟩, ⟨.int .i64 10, .func (.func 20) #[.pointer (some ⟨g, 0, none⟩)] #[], 9⟩] 10 3 3 _ rfl
  unfold SV.cells
  go_enter Try.func10, Try.ntmps10
  go_wp2_with fail
  refine (add_one _ g (w.heap.size + 2) base av r s l _ _ _ _ _ _ _ _ _ _ (((hl.alloc _).alloc _).alloc _) (Blk.newAt (by simp)) (by omega)).mono ?_
  rintro e w1 ⟨rfl, av1, hl1, hs1⟩
  have bS := hs1.blk (((hl.alloc _).alloc _).alloc _) (((Blk.newAt rfl).alloc _).alloc _) (by decide) (.inl (by decide))
  have hS1 := ((((LS.refl w g av).alloc _).alloc _).alloc _).trans hs1
  have hz := hs1.keep.size
  simp at hz
  have hz0 : w.heap.size < w1.heap.size := by omega
  have s0 := bS.cell 0
  have s1 := bS.cell 1
  have s2 := bS.cell 2
  have s3 := bS.cell 3
  have s4 := bS.cell 4
  have s5 := bS.cell 5
  have s6 := bS.cell 6
  have s7 := bS.cell 7
  have s8 := bS.cell 8
  have s9 := bS.cell 9
  have s10 := bS.cell 10
  simp at s0 s1 s2 s3 s4 s5 s6 s7 s8 s9 s10
  go_wp2_with (first | (rw [hins]; rotate_left; rfl))
  have hl1' := hl1.alloc (.map #[⟨.int .i64 0, .func (.func 12) #[.pointer (some ⟨g, 0, none⟩)] #[], 0⟩, ⟨.int .i64 1, .func (.func 13) #[.pointer (some ⟨g, 0, none⟩)] #[], 1⟩, ⟨.int .i64 2, .func (.func 14) #[.pointer (some ⟨g, 0, none⟩)] #[], 2⟩, ⟨.int .i64 3, .func (.func 15) #[.pointer (some ⟨g, 0, none⟩)] #[], 3⟩, ⟨.int .i64 4, .func (.func 16) #[.pointer (some ⟨g, 0, none⟩)] #[], 4⟩, ⟨.int .i64 5, .func (.func 17) #[.pointer (some ⟨g, 0, none⟩)] #[], 5⟩, ⟨.int .i64 6, .func (.func 18) #[.pointer (some ⟨g, 0, none⟩)] #[], 6⟩, ⟨.int .i64 8, .func (.func 19) #[.pointer (some ⟨g, 0, none⟩)] #[], 7⟩, ⟨.int .i64 9, .func (.func 20) #[.pointer (some ⟨g, 0, none⟩)] #[], 8⟩, ⟨.int .i64 10, .func (.func 20) #[.pointer (some ⟨g, 0, none⟩)] #[], 9⟩] 10)
  have hS1' := hS1.alloc (.map #[⟨.int .i64 0, .func (.func 12) #[.pointer (some ⟨g, 0, none⟩)] #[], 0⟩, ⟨.int .i64 1, .func (.func 13) #[.pointer (some ⟨g, 0, none⟩)] #[], 1⟩, ⟨.int .i64 2, .func (.func 14) #[.pointer (some ⟨g, 0, none⟩)] #[], 2⟩, ⟨.int .i64 3, .func (.func 15) #[.pointer (some ⟨g, 0, none⟩)] #[], 3⟩, ⟨.int .i64 4, .func (.func 16) #[.pointer (some ⟨g, 0, none⟩)] #[], 4⟩, ⟨.int .i64 5, .func (.func 17) #[.pointer (some ⟨g, 0, none⟩)] #[], 5⟩, ⟨.int .i64 6, .func (.func 18) #[.pointer (some ⟨g, 0, none⟩)] #[], 6⟩, ⟨.int .i64 8, .func (.func 19) #[.pointer (some ⟨g, 0, none⟩)] #[], 7⟩, ⟨.int .i64 9, .func (.func 20) #[.pointer (some ⟨g, 0, none⟩)] #[], 8⟩, ⟨.int .i64 10, .func (.func 20) #[.pointer (some ⟨g, 0, none⟩)] #[], 9⟩] 10)
  have hes' := hes.step hl hS1'
  refine (HDO.out _ av1 _ hl1' hes' (by simp; omega) (by omega) (by simpa using hcap)).mono ?_
  rintro e w2 ⟨rfl, av2, hl2, hs2⟩
  have bS2 := hs2.blk hl1' (bS.alloc _) (by decide) (.inl (by decide))
  have hS2 := hS1'.trans hs2
  clear s0 s1 s2 s3 s4 s5 s6 s7 s8 s9 s10
  have s0 := bS2.cell 0
  have s1 := bS2.cell 1
  have s2 := bS2.cell 2
  have s3 := bS2.cell 3
  have s4 := bS2.cell 4
  have s5 := bS2.cell 5
  have s6 := bS2.cell 6
  have s7 := bS2.cell 7
  have s8 := bS2.cell 8
  have s9 := bS2.cell 9
  have s10 := bS2.cell 10
  simp at s0 s1 s2 s3 s4 s5 s6 s7 s8 s9 s10
  have q2 := hl2.blk.cell 2
  simp at q2
  have hglt2 := hl2.blk.lt
  have hz2 := hs2.keep.size
  simp at hz2
  have hz3 : w.heap.size < w2.heap.size := by omega
  by_cases hnx : next = s + 1
  · have t1 : (next == s + 1) = true := by simpa using hnx
    have t2 : (next != s + 1) = false := by simpa using hnx
    have HNX := Lib.hid hnx
    clear hnx
    go_wp2_with fail
    go_quiet (fail)
    go_wp2_with fail
    go_end0
    exact ⟨rfl, av2, by simpa [oneL, bodyL, jumpL, HNX.out] using hl2.drewN _, hS2.drewN _⟩
  · have t1 : (next == s + 1) = false := by simpa using hnx
    have t2 : (next != s + 1) = true := by simpa using hnx
    have HNX := Lib.hid hnx
    clear hnx
    go_wp2_with fail
    go_quiet (fail)
    go_wp2_with fail
    refine (add_one _ g w2.heap.size base av2 _ s _ _ _ _ _ _ _ _ _ _ _ ((hl2.drewN _).alloc _) (Blk.newAt rfl) (by simp; omega)).mono ?_
    rintro e w3 ⟨rfl, av3, hl3, hs3⟩
    go_wp2_with fail
    go_end0
    exact ⟨rfl, av3, by simpa [oneL, bodyL, jumpL, HNX.out] using hl3, ((hS2.drewN _).alloc _).trans hs3⟩

set_option maxRecDepth 100000 in
set_option maxHeartbeats 6400000 in
theorem one_4 (w : World) (g base : Nat) (av : Value) (r s : Int) (l : List I9) (line var addr count ty func reg next els : Int) (es : List EV) (A : Option Addr) (c : Nat)
    (hl : Low w g base av r s l) (hes : RepEs w base A es) (hpre : ∃ x t, es = x :: t ∧ x.ok) (hn : l.length + SV.most ⟨4, line, var, addr, count, ty, es, func, reg, next, els⟩ < 1000000000000) (hr0 : 0 ≤ r) (hr1 : r + SV.most ⟨4, line, var, addr, count, ty, es, func, reg, next, els⟩ < 1000000000000000) (hcap : es.length ≤ c) (hs0 : 0 ≤ s) (hs1 : s < 1000000000000) :
    Calls Try.prog 10 #[.pointer (some ⟨g, 0, none⟩), .agg (SV.cells ⟨4, line, var, addr, count, ty, es, func, reg, next, els⟩ A c)] w fun e w' =>
    e = .returned (.tuple #[]) ∧ ∃ av', Low w' g base av' (oneL ⟨4, line, var, addr, count, ty, es, func, reg, next, els⟩ r s).2 s (l ++ (oneL ⟨4, line, var, addr, count, ty, es, func, reg, next, els⟩ r s).1) ∧ LS w w' g av av' := by
  have hdo := fun W AV L hl hes hn => if_any W g base AV r s L ⟨4, line, var, addr, count, ty, es, func, reg, next, els⟩ A c hl hes hpre hn hr0
  simp only [SV.cells] at hdo
  have HDO := Lib.hid hdo
  clear hdo
  have hlen := ifL_len ⟨4, line, var, addr, count, ty, es, func, reg, next, els⟩ r s
  have hmost := sizes_le es
  simp only [SV.most] at hn hr1
  simp only at hlen
  have hglt := hl.blk.lt
  have hbase := hl.low
  have l2 := hl.blk.cell 2
  simp at l2
  have hmm := @run_makeMap Try.prog
  have hins := fun W es c n v h => run_mapUpdate_new (P := Try.prog) 48 3 44 Try.underlying48 .i64 Try.underlying3 W es c n v h
  have hlk := fun W => run_lookup_last (P := Try.prog) 48 3 44 Try.underlying48 .i64 Try.underlying3 W #[⟨.int .i64 0, .func (.func 12) #[.pointer (some ⟨g, 0, none⟩)] #[], 0⟩, ⟨.int .i64 1, .func (.func 13) #[.pointer (some ⟨g, 0, none⟩)] #[], 1⟩, ⟨.int .i64 2, .func (.func 14) #[.pointer (some ⟨g, 0, none⟩)] #[], 2⟩, ⟨.int .i64 3, .func (.func 15) #[.pointer (some ⟨g, 0, none⟩)] #[], 3⟩, ⟨.int .i64 4, .func (.func 16) #[.pointer (some ⟨g, 0, none⟩)] #[], 4⟩, ⟨.int .i64 5, .func (.func 17) #[.pointer (some ⟨g, 0, none⟩)] #[], 5⟩, ⟨.int .i64 6, .func (.func 18) #[.pointer (some ⟨g, 0, none⟩)] #[], 6⟩, ⟨.int .i64 8, .func (.func 19) #[.pointer (some ⟨g, 0, none⟩)] #[], 7⟩, ⟨.int .i64 9, .func (.func 20) #[.pointer (some ⟨g, 0, none⟩)] #[], 8⟩, ⟨.int .i64 10, .func (.func 20) #[.pointer (some ⟨g, 0, none⟩)] #[], 9⟩] 10 4 4 _ rfl
  unfold SV.cells
  go_enter Try.func10, Try.ntmps10
  go_wp2_with fail
  refine (add_one _ g (w.heap.size + 2) base av r s l _ _ _ _ _ _ _ _ _ _ (((hl.alloc _).alloc _).alloc _) (Blk.newAt (by simp)) (by omega)).mono ?_
  rintro e w1 ⟨rfl, av1, hl1, hs1⟩
  have bS := hs1.blk (((hl.alloc _).alloc _).alloc _) (((Blk.newAt rfl).alloc _).alloc _) (by decide) (.inl (by decide))
  have hS1 := ((((LS.refl w g av).alloc _).alloc _).alloc _).trans hs1
  have hz := hs1.keep.size
  simp at hz
  have hz0 : w.heap.size < w1.heap.size := by omega
  have s0 := bS.cell 0
  have s1 := bS.cell 1
  have s2 := bS.cell 2
  have s3 := bS.cell 3
  have s4 := bS.cell 4
  have s5 := bS.cell 5
  have s6 := bS.cell 6
  have s7 := bS.cell 7
  have s8 := bS.cell 8
  have s9 := bS.cell 9
  have s10 := bS.cell 10
  simp at s0 s1 s2 s3 s4 s5 s6 s7 s8 s9 s10
  go_wp2_with (first | (rw [hins]; rotate_left; rfl))
  have hl1' := hl1.alloc (.map #[⟨.int .i64 0, .func (.func 12) #[.pointer (some ⟨g, 0, none⟩)] #[], 0⟩, ⟨.int .i64 1, .func (.func 13) #[.pointer (some ⟨g, 0, none⟩)] #[], 1⟩, ⟨.int .i64 2, .func (.func 14) #[.pointer (some ⟨g, 0, none⟩)] #[], 2⟩, ⟨.int .i64 3, .func (.func 15) #[.pointer (some ⟨g, 0, none⟩)] #[], 3⟩, ⟨.int .i64 4, .func (.func 16) #[.pointer (some ⟨g, 0, none⟩)] #[], 4⟩, ⟨.int .i64 5, .func (.func 17) #[.pointer (some ⟨g, 0, none⟩)] #[], 5⟩, ⟨.int .i64 6, .func (.func 18) #[.pointer (some ⟨g, 0, none⟩)] #[], 6⟩, ⟨.int .i64 8, .func (.func 19) #[.pointer (some ⟨g, 0, none⟩)] #[], 7⟩, ⟨.int .i64 9, .func (.func 20) #[.pointer (some ⟨g, 0, none⟩)] #[], 8⟩, ⟨.int .i64 10, .func (.func 20) #[.pointer (some ⟨g, 0, none⟩)] #[], 9⟩] 10)
  have hS1' := hS1.alloc (.map #[⟨.int .i64 0, .func (.func 12) #[.pointer (some ⟨g, 0, none⟩)] #[], 0⟩, ⟨.int .i64 1, .func (.func 13) #[.pointer (some ⟨g, 0, none⟩)] #[], 1⟩, ⟨.int .i64 2, .func (.func 14) #[.pointer (some ⟨g, 0, none⟩)] #[], 2⟩, ⟨.int .i64 3, .func (.func 15) #[.pointer (some ⟨g, 0, none⟩)] #[], 3⟩, ⟨.int .i64 4, .func (.func 16) #[.pointer (some ⟨g, 0, none⟩)] #[], 4⟩, ⟨.int .i64 5, .func (.func 17) #[.pointer (some ⟨g, 0, none⟩)] #[], 5⟩, ⟨.int .i64 6, .func (.func 18) #[.pointer (some ⟨g, 0, none⟩)] #[], 6⟩, ⟨.int .i64 8, .func (.func 19) #[.pointer (some ⟨g, 0, none⟩)] #[], 7⟩, ⟨.int .i64 9, .func (.func 20) #[.pointer (some ⟨g, 0, none⟩)] #[], 8⟩, ⟨.int .i64 10, .func (.func 20) #[.pointer (some ⟨g, 0, none⟩)] #[], 9⟩] 10)
  have hes' := hes.step hl hS1'
  refine (HDO.out _ av1 _ hl1' hes' (by simp; omega) (by omega) (by simpa using hcap)).mono ?_
  rintro e w2 ⟨rfl, av2, hl2, hs2⟩
  have bS2 := hs2.blk hl1' (bS.alloc _) (by decide) (.inl (by decide))
  have hS2 := hS1'.trans hs2
  clear s0 s1 s2 s3 s4 s5 s6 s7 s8 s9 s10
  have s0 := bS2.cell 0
  have s1 := bS2.cell 1
  have s2 := bS2.cell 2
  have s3 := bS2.cell 3
  have s4 := bS2.cell 4
  have s5 := bS2.cell 5
  have s6 := bS2.cell 6
  have s7 := bS2.cell 7
  have s8 := bS2.cell 8
  have s9 := bS2.cell 9
  have s10 := bS2.cell 10
  simp at s0 s1 s2 s3 s4 s5 s6 s7 s8 s9 s10
  have q2 := hl2.blk.cell 2
  simp at q2
  have hglt2 := hl2.blk.lt
  have hz2 := hs2.keep.size
  simp at hz2
  have hz3 : w.heap.size < w2.heap.size := by omega
  by_cases hnx : next = s + 1
  · have t1 : (next == s + 1) = true := by simpa using hnx
    have t2 : (next != s + 1) = false := by simpa using hnx
    have HNX := Lib.hid hnx
    clear hnx
    go_wp2_with fail
    go_quiet (fail)
    go_wp2_with fail
    go_end0
    exact ⟨rfl, av2, by simpa [oneL, bodyL, jumpL, HNX.out] using hl2.drewN _, hS2.drewN _⟩
  · have t1 : (next == s + 1) = false := by simpa using hnx
    have t2 : (next != s + 1) = true := by simpa using hnx
    have HNX := Lib.hid hnx
    clear hnx
    go_wp2_with fail
    go_quiet (fail)
    go_wp2_with fail
    refine (add_one _ g w2.heap.size base av2 _ s _ _ _ _ _ _ _ _ _ _ _ ((hl2.drewN _).alloc _) (Blk.newAt rfl) (by simp; omega)).mono ?_
    rintro e w3 ⟨rfl, av3, hl3, hs3⟩
    go_wp2_with fail
    go_end0
    exact ⟨rfl, av3, by simpa [oneL, bodyL, jumpL, HNX.out] using hl3, ((hS2.drewN _).alloc _).trans hs3⟩

set_option maxRecDepth 100000 in
set_option maxHeartbeats 6400000 in
theorem one_5 (w : World) (g base : Nat) (av : Value) (r s : Int) (l : List I9) (line var addr count ty func reg next els : Int) (es : List EV) (A : Option Addr) (c : Nat)
    (hl : Low w g base av r s l) (hes : RepEs w base A es) (hpre : True) (hn : l.length + SV.most ⟨5, line, var, addr, count, ty, es, func, reg, next, els⟩ < 1000000000000) (hr0 : 0 ≤ r) (hr1 : r + SV.most ⟨5, line, var, addr, count, ty, es, func, reg, next, els⟩ < 1000000000000000) (hcap : es.length ≤ c) (hs0 : 0 ≤ s) (hs1 : s < 1000000000000) :
    Calls Try.prog 10 #[.pointer (some ⟨g, 0, none⟩), .agg (SV.cells ⟨5, line, var, addr, count, ty, es, func, reg, next, els⟩ A c)] w fun e w' =>
    e = .returned (.tuple #[]) ∧ ∃ av', Low w' g base av' (oneL ⟨5, line, var, addr, count, ty, es, func, reg, next, els⟩ r s).2 s (l ++ (oneL ⟨5, line, var, addr, count, ty, es, func, reg, next, els⟩ r s).1) ∧ LS w w' g av av' := by
  have hdo := fun W AV L hl hes hn => enter_any W g base AV r s L ⟨5, line, var, addr, count, ty, es, func, reg, next, els⟩ A c hl hes trivial hn hr0
  simp only [SV.cells] at hdo
  have HDO := Lib.hid hdo
  clear hdo
  have hmost := sizes_le es
  simp only [SV.most] at hn hr1
  have hglt := hl.blk.lt
  have hbase := hl.low
  have l2 := hl.blk.cell 2
  simp at l2
  have hmm := @run_makeMap Try.prog
  have hins := fun W es c n v h => run_mapUpdate_new (P := Try.prog) 48 3 44 Try.underlying48 .i64 Try.underlying3 W es c n v h
  have hlk := fun W => run_lookup_last (P := Try.prog) 48 3 44 Try.underlying48 .i64 Try.underlying3 W #[⟨.int .i64 0, .func (.func 12) #[.pointer (some ⟨g, 0, none⟩)] #[], 0⟩, ⟨.int .i64 1, .func (.func 13) #[.pointer (some ⟨g, 0, none⟩)] #[], 1⟩, ⟨.int .i64 2, .func (.func 14) #[.pointer (some ⟨g, 0, none⟩)] #[], 2⟩, ⟨.int .i64 3, .func (.func 15) #[.pointer (some ⟨g, 0, none⟩)] #[], 3⟩, ⟨.int .i64 4, .func (.func 16) #[.pointer (some ⟨g, 0, none⟩)] #[], 4⟩, ⟨.int .i64 5, .func (.func 17) #[.pointer (some ⟨g, 0, none⟩)] #[], 5⟩, ⟨.int .i64 6, .func (.func 18) #[.pointer (some ⟨g, 0, none⟩)] #[], 6⟩, ⟨.int .i64 8, .func (.func 19) #[.pointer (some ⟨g, 0, none⟩)] #[], 7⟩, ⟨.int .i64 9, .func (.func 20) #[.pointer (some ⟨g, 0, none⟩)] #[], 8⟩, ⟨.int .i64 10, .func (.func 20) #[.pointer (some ⟨g, 0, none⟩)] #[], 9⟩] 10 5 5 _ rfl
  unfold SV.cells
  go_enter Try.func10, Try.ntmps10
  go_wp2_with fail
  refine (add_one _ g (w.heap.size + 2) base av r s l _ _ _ _ _ _ _ _ _ _ (((hl.alloc _).alloc _).alloc _) (Blk.newAt (by simp)) (by omega)).mono ?_
  rintro e w1 ⟨rfl, av1, hl1, hs1⟩
  have bS := hs1.blk (((hl.alloc _).alloc _).alloc _) (((Blk.newAt rfl).alloc _).alloc _) (by decide) (.inl (by decide))
  have hS1 := ((((LS.refl w g av).alloc _).alloc _).alloc _).trans hs1
  have hz := hs1.keep.size
  simp at hz
  have hz0 : w.heap.size < w1.heap.size := by omega
  have s0 := bS.cell 0
  have s1 := bS.cell 1
  have s2 := bS.cell 2
  have s3 := bS.cell 3
  have s4 := bS.cell 4
  have s5 := bS.cell 5
  have s6 := bS.cell 6
  have s7 := bS.cell 7
  have s8 := bS.cell 8
  have s9 := bS.cell 9
  have s10 := bS.cell 10
  simp at s0 s1 s2 s3 s4 s5 s6 s7 s8 s9 s10
  go_wp2_with (first | (rw [hins]; rotate_left; rfl))
  have hl1' := hl1.alloc (.map #[⟨.int .i64 0, .func (.func 12) #[.pointer (some ⟨g, 0, none⟩)] #[], 0⟩, ⟨.int .i64 1, .func (.func 13) #[.pointer (some ⟨g, 0, none⟩)] #[], 1⟩, ⟨.int .i64 2, .func (.func 14) #[.pointer (some ⟨g, 0, none⟩)] #[], 2⟩, ⟨.int .i64 3, .func (.func 15) #[.pointer (some ⟨g, 0, none⟩)] #[], 3⟩, ⟨.int .i64 4, .func (.func 16) #[.pointer (some ⟨g, 0, none⟩)] #[], 4⟩, ⟨.int .i64 5, .func (.func 17) #[.pointer (some ⟨g, 0, none⟩)] #[], 5⟩, ⟨.int .i64 6, .func (.func 18) #[.pointer (some ⟨g, 0, none⟩)] #[], 6⟩, ⟨.int .i64 8, .func (.func 19) #[.pointer (some ⟨g, 0, none⟩)] #[], 7⟩, ⟨.int .i64 9, .func (.func 20) #[.pointer (some ⟨g, 0, none⟩)] #[], 8⟩, ⟨.int .i64 10, .func (.func 20) #[.pointer (some ⟨g, 0, none⟩)] #[], 9⟩] 10)
  have hS1' := hS1.alloc (.map #[⟨.int .i64 0, .func (.func 12) #[.pointer (some ⟨g, 0, none⟩)] #[], 0⟩, ⟨.int .i64 1, .func (.func 13) #[.pointer (some ⟨g, 0, none⟩)] #[], 1⟩, ⟨.int .i64 2, .func (.func 14) #[.pointer (some ⟨g, 0, none⟩)] #[], 2⟩, ⟨.int .i64 3, .func (.func 15) #[.pointer (some ⟨g, 0, none⟩)] #[], 3⟩, ⟨.int .i64 4, .func (.func 16) #[.pointer (some ⟨g, 0, none⟩)] #[], 4⟩, ⟨.int .i64 5, .func (.func 17) #[.pointer (some ⟨g, 0, none⟩)] #[], 5⟩, ⟨.int .i64 6, .func (.func 18) #[.pointer (some ⟨g, 0, none⟩)] #[], 6⟩, ⟨.int .i64 8, .func (.func 19) #[.pointer (some ⟨g, 0, none⟩)] #[], 7⟩, ⟨.int .i64 9, .func (.func 20) #[.pointer (some ⟨g, 0, none⟩)] #[], 8⟩, ⟨.int .i64 10, .func (.func 20) #[.pointer (some ⟨g, 0, none⟩)] #[], 9⟩] 10)
  have hes' := hes.step hl hS1'
  refine (HDO.out _ av1 _ hl1' hes' (by simp; omega) (by omega) (by simpa using hcap)).mono ?_
  rintro e w2 ⟨rfl, av2, hl2, hs2⟩
  have bS2 := hs2.blk hl1' (bS.alloc _) (by decide) (.inl (by decide))
  have hS2 := hS1'.trans hs2
  clear s0 s1 s2 s3 s4 s5 s6 s7 s8 s9 s10
  have s0 := bS2.cell 0
  have s1 := bS2.cell 1
  have s2 := bS2.cell 2
  have s3 := bS2.cell 3
  have s4 := bS2.cell 4
  have s5 := bS2.cell 5
  have s6 := bS2.cell 6
  have s7 := bS2.cell 7
  have s8 := bS2.cell 8
  have s9 := bS2.cell 9
  have s10 := bS2.cell 10
  simp at s0 s1 s2 s3 s4 s5 s6 s7 s8 s9 s10
  have q2 := hl2.blk.cell 2
  simp at q2
  have hglt2 := hl2.blk.lt
  have hz2 := hs2.keep.size
  simp at hz2
  have hz3 : w.heap.size < w2.heap.size := by omega
  by_cases hnx : next = s + 1
  · have t1 : (next == s + 1) = true := by simpa using hnx
    have t2 : (next != s + 1) = false := by simpa using hnx
    have HNX := Lib.hid hnx
    clear hnx
    go_wp2_with fail
    go_quiet (fail)
    go_wp2_with fail
    go_end0
    exact ⟨rfl, av2, by simpa [oneL, bodyL, jumpL, HNX.out] using hl2.drewN _, hS2.drewN _⟩
  · have t1 : (next == s + 1) = false := by simpa using hnx
    have t2 : (next != s + 1) = true := by simpa using hnx
    have HNX := Lib.hid hnx
    clear hnx
    go_wp2_with fail
    go_quiet (fail)
    go_wp2_with fail
    refine (add_one _ g w2.heap.size base av2 _ s _ _ _ _ _ _ _ _ _ _ _ ((hl2.drewN _).alloc _) (Blk.newAt rfl) (by simp; omega)).mono ?_
    rintro e w3 ⟨rfl, av3, hl3, hs3⟩
    go_wp2_with fail
    go_end0
    exact ⟨rfl, av3, by simpa [oneL, bodyL, jumpL, HNX.out] using hl3, ((hS2.drewN _).alloc _).trans hs3⟩

set_option maxRecDepth 100000 in
set_option maxHeartbeats 6400000 in
theorem one_6 (w : World) (g base : Nat) (av : Value) (r s : Int) (l : List I9) (line var addr count ty func reg next els : Int) (es : List EV) (A : Option Addr) (c : Nat)
    (hl : Low w g base av r s l) (hes : RepEs w base A es) (hpre : True) (hn : l.length + SV.most ⟨6, line, var, addr, count, ty, es, func, reg, next, els⟩ < 1000000000000) (hr0 : 0 ≤ r) (hr1 : r + SV.most ⟨6, line, var, addr, count, ty, es, func, reg, next, els⟩ < 1000000000000000) (hcap : es.length ≤ c) (hs0 : 0 ≤ s) (hs1 : s < 1000000000000) :
    Calls Try.prog 10 #[.pointer (some ⟨g, 0, none⟩), .agg (SV.cells ⟨6, line, var, addr, count, ty, es, func, reg, next, els⟩ A c)] w fun e w' =>
    e = .returned (.tuple #[]) ∧ ∃ av', Low w' g base av' (oneL ⟨6, line, var, addr, count, ty, es, func, reg, next, els⟩ r s).2 s (l ++ (oneL ⟨6, line, var, addr, count, ty, es, func, reg, next, els⟩ r s).1) ∧ LS w w' g av av' := by
  have hdo := fun W AV L hl hes hn => leave_any W g base AV r s L ⟨6, line, var, addr, count, ty, es, func, reg, next, els⟩ A c hl hes trivial hn hr0
  simp only [SV.cells] at hdo
  have HDO := Lib.hid hdo
  clear hdo
  have hmost := sizes_le es
  simp only [SV.most] at hn hr1
  have hglt := hl.blk.lt
  have hbase := hl.low
  have l2 := hl.blk.cell 2
  simp at l2
  have hmm := @run_makeMap Try.prog
  have hins := fun W es c n v h => run_mapUpdate_new (P := Try.prog) 48 3 44 Try.underlying48 .i64 Try.underlying3 W es c n v h
  have hlk := fun W => run_lookup_last (P := Try.prog) 48 3 44 Try.underlying48 .i64 Try.underlying3 W #[⟨.int .i64 0, .func (.func 12) #[.pointer (some ⟨g, 0, none⟩)] #[], 0⟩, ⟨.int .i64 1, .func (.func 13) #[.pointer (some ⟨g, 0, none⟩)] #[], 1⟩, ⟨.int .i64 2, .func (.func 14) #[.pointer (some ⟨g, 0, none⟩)] #[], 2⟩, ⟨.int .i64 3, .func (.func 15) #[.pointer (some ⟨g, 0, none⟩)] #[], 3⟩, ⟨.int .i64 4, .func (.func 16) #[.pointer (some ⟨g, 0, none⟩)] #[], 4⟩, ⟨.int .i64 5, .func (.func 17) #[.pointer (some ⟨g, 0, none⟩)] #[], 5⟩, ⟨.int .i64 6, .func (.func 18) #[.pointer (some ⟨g, 0, none⟩)] #[], 6⟩, ⟨.int .i64 8, .func (.func 19) #[.pointer (some ⟨g, 0, none⟩)] #[], 7⟩, ⟨.int .i64 9, .func (.func 20) #[.pointer (some ⟨g, 0, none⟩)] #[], 8⟩, ⟨.int .i64 10, .func (.func 20) #[.pointer (some ⟨g, 0, none⟩)] #[], 9⟩] 10 6 6 _ rfl
  unfold SV.cells
  go_enter Try.func10, Try.ntmps10
  go_wp2_with fail
  refine (add_one _ g (w.heap.size + 2) base av r s l _ _ _ _ _ _ _ _ _ _ (((hl.alloc _).alloc _).alloc _) (Blk.newAt (by simp)) (by omega)).mono ?_
  rintro e w1 ⟨rfl, av1, hl1, hs1⟩
  have bS := hs1.blk (((hl.alloc _).alloc _).alloc _) (((Blk.newAt rfl).alloc _).alloc _) (by decide) (.inl (by decide))
  have hS1 := ((((LS.refl w g av).alloc _).alloc _).alloc _).trans hs1
  have hz := hs1.keep.size
  simp at hz
  have hz0 : w.heap.size < w1.heap.size := by omega
  have s0 := bS.cell 0
  have s1 := bS.cell 1
  have s2 := bS.cell 2
  have s3 := bS.cell 3
  have s4 := bS.cell 4
  have s5 := bS.cell 5
  have s6 := bS.cell 6
  have s7 := bS.cell 7
  have s8 := bS.cell 8
  have s9 := bS.cell 9
  have s10 := bS.cell 10
  simp at s0 s1 s2 s3 s4 s5 s6 s7 s8 s9 s10
  go_wp2_with (first | (rw [hins]; rotate_left; rfl))
  have hl1' := hl1.alloc (.map #[⟨.int .i64 0, .func (.func 12) #[.pointer (some ⟨g, 0, none⟩)] #[], 0⟩, ⟨.int .i64 1, .func (.func 13) #[.pointer (some ⟨g, 0, none⟩)] #[], 1⟩, ⟨.int .i64 2, .func (.func 14) #[.pointer (some ⟨g, 0, none⟩)] #[], 2⟩, ⟨.int .i64 3, .func (.func 15) #[.pointer (some ⟨g, 0, none⟩)] #[], 3⟩, ⟨.int .i64 4, .func (.func 16) #[.pointer (some ⟨g, 0, none⟩)] #[], 4⟩, ⟨.int .i64 5, .func (.func 17) #[.pointer (some ⟨g, 0, none⟩)] #[], 5⟩, ⟨.int .i64 6, .func (.func 18) #[.pointer (some ⟨g, 0, none⟩)] #[], 6⟩, ⟨.int .i64 8, .func (.func 19) #[.pointer (some ⟨g, 0, none⟩)] #[], 7⟩, ⟨.int .i64 9, .func (.func 20) #[.pointer (some ⟨g, 0, none⟩)] #[], 8⟩, ⟨.int .i64 10, .func (.func 20) #[.pointer (some ⟨g, 0, none⟩)] #[], 9⟩] 10)
  have hS1' := hS1.alloc (.map #[⟨.int .i64 0, .func (.func 12) #[.pointer (some ⟨g, 0, none⟩)] #[], 0⟩, ⟨.int .i64 1, .func (.func 13) #[.pointer (some ⟨g, 0, none⟩)] #[], 1⟩, ⟨.int .i64 2, .func (.func 14) #[.pointer (some ⟨g, 0, none⟩)] #[], 2⟩, ⟨.int .i64 3, .func (.func 15) #[.pointer (some ⟨g, 0, none⟩)] #[], 3⟩, ⟨.int .i64 4, .func (.func 16) #[.pointer (some ⟨g, 0, none⟩)] #[], 4⟩, ⟨.int .i64 5, .func (.func 17) #[.pointer (some ⟨g, 0, none⟩)] #[], 5⟩, ⟨.int .i64 6, .func (.func 18) #[.pointer (some ⟨g, 0, none⟩)] #[], 6⟩, ⟨.int .i64 8, .func (.func 19) #[.pointer (some ⟨g, 0, none⟩)] #[], 7⟩, ⟨.int .i64 9, .func (.func 20) #[.pointer (some ⟨g, 0, none⟩)] #[], 8⟩, ⟨.int .i64 10, .func (.func 20) #[.pointer (some ⟨g, 0, none⟩)] #[], 9⟩] 10)
  have hes' := hes.step hl hS1'
  refine (HDO.out _ av1 _ hl1' hes' (by simp; omega) (by omega) (by simpa using hcap)).mono ?_
  rintro e w2 ⟨rfl, av2, hl2, hs2⟩
  have bS2 := hs2.blk hl1' (bS.alloc _) (by decide) (.inl (by decide))
  have hS2 := hS1'.trans hs2
  clear s0 s1 s2 s3 s4 s5 s6 s7 s8 s9 s10
  have s0 := bS2.cell 0
  have s1 := bS2.cell 1
  have s2 := bS2.cell 2
  have s3 := bS2.cell 3
  have s4 := bS2.cell 4
  have s5 := bS2.cell 5
  have s6 := bS2.cell 6
  have s7 := bS2.cell 7
  have s8 := bS2.cell 8
  have s9 := bS2.cell 9
  have s10 := bS2.cell 10
  simp at s0 s1 s2 s3 s4 s5 s6 s7 s8 s9 s10
  have q2 := hl2.blk.cell 2
  simp at q2
  have hglt2 := hl2.blk.lt
  have hz2 := hs2.keep.size
  simp at hz2
  have hz3 : w.heap.size < w2.heap.size := by omega
  by_cases hnx : next = s + 1
  · have t1 : (next == s + 1) = true := by simpa using hnx
    have t2 : (next != s + 1) = false := by simpa using hnx
    have HNX := Lib.hid hnx
    clear hnx
    go_wp2_with fail
    go_quiet (fail)
    go_wp2_with fail
    go_end0
    exact ⟨rfl, av2, by simpa [oneL, bodyL, jumpL, HNX.out] using hl2.drewN _, hS2.drewN _⟩
  · have t1 : (next == s + 1) = false := by simpa using hnx
    have t2 : (next != s + 1) = true := by simpa using hnx
    have HNX := Lib.hid hnx
    clear hnx
    go_wp2_with fail
    go_quiet (fail)
    go_wp2_with fail
    refine (add_one _ g w2.heap.size base av2 _ s _ _ _ _ _ _ _ _ _ _ _ ((hl2.drewN _).alloc _) (Blk.newAt rfl) (by simp; omega)).mono ?_
    rintro e w3 ⟨rfl, av3, hl3, hs3⟩
    go_wp2_with fail
    go_end0
    exact ⟨rfl, av3, by simpa [oneL, bodyL, jumpL, HNX.out] using hl3, ((hS2.drewN _).alloc _).trans hs3⟩

set_option maxRecDepth 100000 in
set_option maxHeartbeats 6400000 in
theorem one_7 (w : World) (g base : Nat) (av : Value) (r s : Int) (l : List I9) (line var addr count ty func reg next els : Int) (es : List EV) (A : Option Addr) (c : Nat)
    (hl : Low w g base av r s l) (hes : RepEs w base A es) (hpre : True) (hn : l.length + SV.most ⟨7, line, var, addr, count, ty, es, func, reg, next, els⟩ < 1000000000000) (hr0 : 0 ≤ r) (hr1 : r + SV.most ⟨7, line, var, addr, count, ty, es, func, reg, next, els⟩ < 1000000000000000) (hcap : es.length ≤ c) (hs0 : 0 ≤ s) (hs1 : s < 1000000000000) :
    Calls Try.prog 10 #[.pointer (some ⟨g, 0, none⟩), .agg (SV.cells ⟨7, line, var, addr, count, ty, es, func, reg, next, els⟩ A c)] w fun e w' =>
    e = .returned (.tuple #[]) ∧ ∃ av', Low w' g base av' (oneL ⟨7, line, var, addr, count, ty, es, func, reg, next, els⟩ r s).2 s (l ++ (oneL ⟨7, line, var, addr, count, ty, es, func, reg, next, els⟩ r s).1) ∧ LS w w' g av av' := by
  have hmost := sizes_le es
  simp only [SV.most] at hn hr1
  have hglt := hl.blk.lt
  have hbase := hl.low
  have l2 := hl.blk.cell 2
  simp at l2
  have hmm := @run_makeMap Try.prog
  have hins := fun W es c n v h => run_mapUpdate_new (P := Try.prog) 48 3 44 Try.underlying48 .i64 Try.underlying3 W es c n v h
  have hlk := fun W => run_lookup_none (P := Try.prog) 48 3 44 Try.underlying48 .i64 Try.underlying3 W #[⟨.int .i64 0, .func (.func 12) #[.pointer (some ⟨g, 0, none⟩)] #[], 0⟩, ⟨.int .i64 1, .func (.func 13) #[.pointer (some ⟨g, 0, none⟩)] #[], 1⟩, ⟨.int .i64 2, .func (.func 14) #[.pointer (some ⟨g, 0, none⟩)] #[], 2⟩, ⟨.int .i64 3, .func (.func 15) #[.pointer (some ⟨g, 0, none⟩)] #[], 3⟩, ⟨.int .i64 4, .func (.func 16) #[.pointer (some ⟨g, 0, none⟩)] #[], 4⟩, ⟨.int .i64 5, .func (.func 17) #[.pointer (some ⟨g, 0, none⟩)] #[], 5⟩, ⟨.int .i64 6, .func (.func 18) #[.pointer (some ⟨g, 0, none⟩)] #[], 6⟩, ⟨.int .i64 8, .func (.func 19) #[.pointer (some ⟨g, 0, none⟩)] #[], 7⟩, ⟨.int .i64 9, .func (.func 20) #[.pointer (some ⟨g, 0, none⟩)] #[], 8⟩, ⟨.int .i64 10, .func (.func 20) #[.pointer (some ⟨g, 0, none⟩)] #[], 9⟩] 10 7 .nilFunc rfl rfl
  unfold SV.cells
  go_enter Try.func10, Try.ntmps10
  go_wp2_with fail
  refine (add_one _ g (w.heap.size + 2) base av r s l _ _ _ _ _ _ _ _ _ _ (((hl.alloc _).alloc _).alloc _) (Blk.newAt (by simp)) (by omega)).mono ?_
  rintro e w1 ⟨rfl, av1, hl1, hs1⟩
  have bS := hs1.blk (((hl.alloc _).alloc _).alloc _) (((Blk.newAt rfl).alloc _).alloc _) (by decide) (.inl (by decide))
  have hS1 := ((((LS.refl w g av).alloc _).alloc _).alloc _).trans hs1
  have hz := hs1.keep.size
  simp at hz
  have hz0 : w.heap.size < w1.heap.size := by omega
  have s0 := bS.cell 0
  have s1 := bS.cell 1
  have s2 := bS.cell 2
  have s3 := bS.cell 3
  have s4 := bS.cell 4
  have s5 := bS.cell 5
  have s6 := bS.cell 6
  have s7 := bS.cell 7
  have s8 := bS.cell 8
  have s9 := bS.cell 9
  have s10 := bS.cell 10
  simp at s0 s1 s2 s3 s4 s5 s6 s7 s8 s9 s10
  go_wp2_with (first | (rw [hins]; rotate_left; rfl))
  have hl2 := hl1.alloc (.map #[⟨.int .i64 0, .func (.func 12) #[.pointer (some ⟨g, 0, none⟩)] #[], 0⟩, ⟨.int .i64 1, .func (.func 13) #[.pointer (some ⟨g, 0, none⟩)] #[], 1⟩, ⟨.int .i64 2, .func (.func 14) #[.pointer (some ⟨g, 0, none⟩)] #[], 2⟩, ⟨.int .i64 3, .func (.func 15) #[.pointer (some ⟨g, 0, none⟩)] #[], 3⟩, ⟨.int .i64 4, .func (.func 16) #[.pointer (some ⟨g, 0, none⟩)] #[], 4⟩, ⟨.int .i64 5, .func (.func 17) #[.pointer (some ⟨g, 0, none⟩)] #[], 5⟩, ⟨.int .i64 6, .func (.func 18) #[.pointer (some ⟨g, 0, none⟩)] #[], 6⟩, ⟨.int .i64 8, .func (.func 19) #[.pointer (some ⟨g, 0, none⟩)] #[], 7⟩, ⟨.int .i64 9, .func (.func 20) #[.pointer (some ⟨g, 0, none⟩)] #[], 8⟩, ⟨.int .i64 10, .func (.func 20) #[.pointer (some ⟨g, 0, none⟩)] #[], 9⟩] 10)
  have hS2 := hS1.alloc (.map #[⟨.int .i64 0, .func (.func 12) #[.pointer (some ⟨g, 0, none⟩)] #[], 0⟩, ⟨.int .i64 1, .func (.func 13) #[.pointer (some ⟨g, 0, none⟩)] #[], 1⟩, ⟨.int .i64 2, .func (.func 14) #[.pointer (some ⟨g, 0, none⟩)] #[], 2⟩, ⟨.int .i64 3, .func (.func 15) #[.pointer (some ⟨g, 0, none⟩)] #[], 3⟩, ⟨.int .i64 4, .func (.func 16) #[.pointer (some ⟨g, 0, none⟩)] #[], 4⟩, ⟨.int .i64 5, .func (.func 17) #[.pointer (some ⟨g, 0, none⟩)] #[], 5⟩, ⟨.int .i64 6, .func (.func 18) #[.pointer (some ⟨g, 0, none⟩)] #[], 6⟩, ⟨.int .i64 8, .func (.func 19) #[.pointer (some ⟨g, 0, none⟩)] #[], 7⟩, ⟨.int .i64 9, .func (.func 20) #[.pointer (some ⟨g, 0, none⟩)] #[], 8⟩, ⟨.int .i64 10, .func (.func 20) #[.pointer (some ⟨g, 0, none⟩)] #[], 9⟩] 10)
  have bS2 := bS.alloc (.map #[⟨.int .i64 0, .func (.func 12) #[.pointer (some ⟨g, 0, none⟩)] #[], 0⟩, ⟨.int .i64 1, .func (.func 13) #[.pointer (some ⟨g, 0, none⟩)] #[], 1⟩, ⟨.int .i64 2, .func (.func 14) #[.pointer (some ⟨g, 0, none⟩)] #[], 2⟩, ⟨.int .i64 3, .func (.func 15) #[.pointer (some ⟨g, 0, none⟩)] #[], 3⟩, ⟨.int .i64 4, .func (.func 16) #[.pointer (some ⟨g, 0, none⟩)] #[], 4⟩, ⟨.int .i64 5, .func (.func 17) #[.pointer (some ⟨g, 0, none⟩)] #[], 5⟩, ⟨.int .i64 6, .func (.func 18) #[.pointer (some ⟨g, 0, none⟩)] #[], 6⟩, ⟨.int .i64 8, .func (.func 19) #[.pointer (some ⟨g, 0, none⟩)] #[], 7⟩, ⟨.int .i64 9, .func (.func 20) #[.pointer (some ⟨g, 0, none⟩)] #[], 8⟩, ⟨.int .i64 10, .func (.func 20) #[.pointer (some ⟨g, 0, none⟩)] #[], 9⟩] 10)
  have q2 := hl2.blk.cell 2
  have hglt2 := hl2.blk.lt
  have q2 := hl1.blk.cell 2
  have hglt1 := hl1.blk.lt
  simp at q2
  by_cases hnx : next = s + 1
  · have t1 : (next == s + 1) = true := by simpa using hnx
    have t2 : (next != s + 1) = false := by simpa using hnx
    have HNX := Lib.hid hnx
    clear hnx
    go_wp2_with fail
    go_quiet (fail)
    go_wp2_with fail
    go_end0
    exact ⟨rfl, av1, by simpa [oneL, bodyL, jumpL, HNX.out] using hl2.drewN _, hS2.drewN _⟩
  · have t1 : (next == s + 1) = false := by simpa using hnx
    have t2 : (next != s + 1) = true := by simpa using hnx
    have HNX := Lib.hid hnx
    clear hnx
    go_wp2_with fail
    go_quiet (fail)
    go_wp2_with fail
    refine (add_one _ g (w1.heap.size + 1) base av1 _ s _ _ _ _ _ _ _ _ _ _ _ ((hl2.drewN _).alloc _) (Blk.newAt (by simp)) (by simp; omega)).mono ?_
    rintro e w3 ⟨rfl, av3, hl3, hs3⟩
    go_wp2_with fail
    go_end0
    exact ⟨rfl, av3, by simpa [oneL, bodyL, jumpL, HNX.out] using hl3, ((hS2.drewN _).alloc _).trans hs3⟩

set_option maxRecDepth 100000 in
set_option maxHeartbeats 6400000 in
theorem one_8 (w : World) (g base : Nat) (av : Value) (r s : Int) (l : List I9) (line var addr count ty func reg next els : Int) (es : List EV) (A : Option Addr) (c : Nat)
    (hl : Low w g base av r s l) (hes : RepEs w base A es) (hpre : True) (hn : l.length + SV.most ⟨8, line, var, addr, count, ty, es, func, reg, next, els⟩ < 1000000000000) (hr0 : 0 ≤ r) (hr1 : r + SV.most ⟨8, line, var, addr, count, ty, es, func, reg, next, els⟩ < 1000000000000000) (hcap : es.length ≤ c) (hs0 : 0 ≤ s) (hs1 : s < 1000000000000) :
    Calls Try.prog 10 #[.pointer (some ⟨g, 0, none⟩), .agg (SV.cells ⟨8, line, var, addr, count, ty, es, func, reg, next, els⟩ A c)] w fun e w' =>
    e = .returned (.tuple #[]) ∧ ∃ av', Low w' g base av' (oneL ⟨8, line, var, addr, count, ty, es, func, reg, next, els⟩ r s).2 s (l ++ (oneL ⟨8, line, var, addr, count, ty, es, func, reg, next, els⟩ r s).1) ∧ LS w w' g av av' := by
  have hdo := fun W AV L hl hes hn => halt_any W g base AV r s L ⟨8, line, var, addr, count, ty, es, func, reg, next, els⟩ A c hl hes trivial hn hr0
  simp only [SV.cells] at hdo
  have HDO := Lib.hid hdo
  clear hdo
  have hmost := sizes_le es
  simp only [SV.most] at hn hr1
  have hglt := hl.blk.lt
  have hbase := hl.low
  have l2 := hl.blk.cell 2
  simp at l2
  have hmm := @run_makeMap Try.prog
  have hins := fun W es c n v h => run_mapUpdate_new (P := Try.prog) 48 3 44 Try.underlying48 .i64 Try.underlying3 W es c n v h
  have hlk := fun W => run_lookup_last (P := Try.prog) 48 3 44 Try.underlying48 .i64 Try.underlying3 W #[⟨.int .i64 0, .func (.func 12) #[.pointer (some ⟨g, 0, none⟩)] #[], 0⟩, ⟨.int .i64 1, .func (.func 13) #[.pointer (some ⟨g, 0, none⟩)] #[], 1⟩, ⟨.int .i64 2, .func (.func 14) #[.pointer (some ⟨g, 0, none⟩)] #[], 2⟩, ⟨.int .i64 3, .func (.func 15) #[.pointer (some ⟨g, 0, none⟩)] #[], 3⟩, ⟨.int .i64 4, .func (.func 16) #[.pointer (some ⟨g, 0, none⟩)] #[], 4⟩, ⟨.int .i64 5, .func (.func 17) #[.pointer (some ⟨g, 0, none⟩)] #[], 5⟩, ⟨.int .i64 6, .func (.func 18) #[.pointer (some ⟨g, 0, none⟩)] #[], 6⟩, ⟨.int .i64 8, .func (.func 19) #[.pointer (some ⟨g, 0, none⟩)] #[], 7⟩, ⟨.int .i64 9, .func (.func 20) #[.pointer (some ⟨g, 0, none⟩)] #[], 8⟩, ⟨.int .i64 10, .func (.func 20) #[.pointer (some ⟨g, 0, none⟩)] #[], 9⟩] 10 8 7 _ rfl
  unfold SV.cells
  go_enter Try.func10, Try.ntmps10
  go_wp2_with fail
  refine (add_one _ g (w.heap.size + 2) base av r s l _ _ _ _ _ _ _ _ _ _ (((hl.alloc _).alloc _).alloc _) (Blk.newAt (by simp)) (by omega)).mono ?_
  rintro e w1 ⟨rfl, av1, hl1, hs1⟩
  have bS := hs1.blk (((hl.alloc _).alloc _).alloc _) (((Blk.newAt rfl).alloc _).alloc _) (by decide) (.inl (by decide))
  have hS1 := ((((LS.refl w g av).alloc _).alloc _).alloc _).trans hs1
  have hz := hs1.keep.size
  simp at hz
  have hz0 : w.heap.size < w1.heap.size := by omega
  have s0 := bS.cell 0
  have s1 := bS.cell 1
  have s2 := bS.cell 2
  have s3 := bS.cell 3
  have s4 := bS.cell 4
  have s5 := bS.cell 5
  have s6 := bS.cell 6
  have s7 := bS.cell 7
  have s8 := bS.cell 8
  have s9 := bS.cell 9
  have s10 := bS.cell 10
  simp at s0 s1 s2 s3 s4 s5 s6 s7 s8 s9 s10
  go_wp2_with (first | (rw [hins]; rotate_left; rfl))
  have hl1' := hl1.alloc (.map #[⟨.int .i64 0, .func (.func 12) #[.pointer (some ⟨g, 0, none⟩)] #[], 0⟩, ⟨.int .i64 1, .func (.func 13) #[.pointer (some ⟨g, 0, none⟩)] #[], 1⟩, ⟨.int .i64 2, .func (.func 14) #[.pointer (some ⟨g, 0, none⟩)] #[], 2⟩, ⟨.int .i64 3, .func (.func 15) #[.pointer (some ⟨g, 0, none⟩)] #[], 3⟩, ⟨.int .i64 4, .func (.func 16) #[.pointer (some ⟨g, 0, none⟩)] #[], 4⟩, ⟨.int .i64 5, .func (.func 17) #[.pointer (some ⟨g, 0, none⟩)] #[], 5⟩, ⟨.int .i64 6, .func (.func 18) #[.pointer (some ⟨g, 0, none⟩)] #[], 6⟩, ⟨.int .i64 8, .func (.func 19) #[.pointer (some ⟨g, 0, none⟩)] #[], 7⟩, ⟨.int .i64 9, .func (.func 20) #[.pointer (some ⟨g, 0, none⟩)] #[], 8⟩, ⟨.int .i64 10, .func (.func 20) #[.pointer (some ⟨g, 0, none⟩)] #[], 9⟩] 10)
  have hS1' := hS1.alloc (.map #[⟨.int .i64 0, .func (.func 12) #[.pointer (some ⟨g, 0, none⟩)] #[], 0⟩, ⟨.int .i64 1, .func (.func 13) #[.pointer (some ⟨g, 0, none⟩)] #[], 1⟩, ⟨.int .i64 2, .func (.func 14) #[.pointer (some ⟨g, 0, none⟩)] #[], 2⟩, ⟨.int .i64 3, .func (.func 15) #[.pointer (some ⟨g, 0, none⟩)] #[], 3⟩, ⟨.int .i64 4, .func (.func 16) #[.pointer (some ⟨g, 0, none⟩)] #[], 4⟩, ⟨.int .i64 5, .func (.func 17) #[.pointer (some ⟨g, 0, none⟩)] #[], 5⟩, ⟨.int .i64 6, .func (.func 18) #[.pointer (some ⟨g, 0, none⟩)] #[], 6⟩, ⟨.int .i64 8, .func (.func 19) #[.pointer (some ⟨g, 0, none⟩)] #[], 7⟩, ⟨.int .i64 9, .func (.func 20) #[.pointer (some ⟨g, 0, none⟩)] #[], 8⟩, ⟨.int .i64 10, .func (.func 20) #[.pointer (some ⟨g, 0, none⟩)] #[], 9⟩] 10)
  have hes' := hes.step hl hS1'
  refine (HDO.out _ av1 _ hl1' hes' (by simp; omega) (by omega) (by simpa using hcap)).mono ?_
  rintro e w2 ⟨rfl, av2, hl2, hs2⟩
  have bS2 := hs2.blk hl1' (bS.alloc _) (by decide) (.inl (by decide))
  have hS2 := hS1'.trans hs2
  clear s0 s1 s2 s3 s4 s5 s6 s7 s8 s9 s10
  have s0 := bS2.cell 0
  have s1 := bS2.cell 1
  have s2 := bS2.cell 2
  have s3 := bS2.cell 3
  have s4 := bS2.cell 4
  have s5 := bS2.cell 5
  have s6 := bS2.cell 6
  have s7 := bS2.cell 7
  have s8 := bS2.cell 8
  have s9 := bS2.cell 9
  have s10 := bS2.cell 10
  simp at s0 s1 s2 s3 s4 s5 s6 s7 s8 s9 s10
  go_wp2_with fail
  go_end0
  exact ⟨rfl, av2, by simpa [oneL, bodyL] using hl2, hS2⟩

set_option maxRecDepth 100000 in
set_option maxHeartbeats 6400000 in
theorem one_9 (w : World) (g base : Nat) (av : Value) (r s : Int) (l : List I9) (line var addr count ty func reg next els : Int) (es : List EV) (A : Option Addr) (c : Nat)
    (hl : Low w g base av r s l) (hes : RepEs w base A es) (hpre : es = [] ∨ ∃ x, es = [x] ∧ x.ok) (hn : l.length + SV.most ⟨9, line, var, addr, count, ty, es, func, reg, next, els⟩ < 1000000000000) (hr0 : 0 ≤ r) (hr1 : r + SV.most ⟨9, line, var, addr, count, ty, es, func, reg, next, els⟩ < 1000000000000000) (hcap : es.length ≤ c) (hs0 : 0 ≤ s) (hs1 : s < 1000000000000) :
    Calls Try.prog 10 #[.pointer (some ⟨g, 0, none⟩), .agg (SV.cells ⟨9, line, var, addr, count, ty, es, func, reg, next, els⟩ A c)] w fun e w' =>
    e = .returned (.tuple #[]) ∧ ∃ av', Low w' g base av' (oneL ⟨9, line, var, addr, count, ty, es, func, reg, next, els⟩ r s).2 s (l ++ (oneL ⟨9, line, var, addr, count, ty, es, func, reg, next, els⟩ r s).1) ∧ LS w w' g av av' := by
  have hdo := fun W AV L hl hes hn => back_any W g base AV r s L ⟨9, line, var, addr, count, ty, es, func, reg, next, els⟩ A c hl hes hpre hn hr0
  simp only [SV.cells] at hdo
  have HDO := Lib.hid hdo
  clear hdo
  have hlen := backL_len ⟨9, line, var, addr, count, ty, es, func, reg, next, els⟩ r s
  have hmost := sizes_le es
  simp only [SV.most] at hn hr1
  simp only at hlen
  have hglt := hl.blk.lt
  have hbase := hl.low
  have l2 := hl.blk.cell 2
  simp at l2
  have hmm := @run_makeMap Try.prog
  have hins := fun W es c n v h => run_mapUpdate_new (P := Try.prog) 48 3 44 Try.underlying48 .i64 Try.underlying3 W es c n v h
  have hlk := fun W => run_lookup_last (P := Try.prog) 48 3 44 Try.underlying48 .i64 Try.underlying3 W #[⟨.int .i64 0, .func (.func 12) #[.pointer (some ⟨g, 0, none⟩)] #[], 0⟩, ⟨.int .i64 1, .func (.func 13) #[.pointer (some ⟨g, 0, none⟩)] #[], 1⟩, ⟨.int .i64 2, .func (.func 14) #[.pointer (some ⟨g, 0, none⟩)] #[], 2⟩, ⟨.int .i64 3, .func (.func 15) #[.pointer (some ⟨g, 0, none⟩)] #[], 3⟩, ⟨.int .i64 4, .func (.func 16) #[.pointer (some ⟨g, 0, none⟩)] #[], 4⟩, ⟨.int .i64 5, .func (.func 17) #[.pointer (some ⟨g, 0, none⟩)] #[], 5⟩, ⟨.int .i64 6, .func (.func 18) #[.pointer (some ⟨g, 0, none⟩)] #[], 6⟩, ⟨.int .i64 8, .func (.func 19) #[.pointer (some ⟨g, 0, none⟩)] #[], 7⟩, ⟨.int .i64 9, .func (.func 20) #[.pointer (some ⟨g, 0, none⟩)] #[], 8⟩, ⟨.int .i64 10, .func (.func 20) #[.pointer (some ⟨g, 0, none⟩)] #[], 9⟩] 10 9 8 _ rfl
  unfold SV.cells
  go_enter Try.func10, Try.ntmps10
  go_wp2_with fail
  refine (add_one _ g (w.heap.size + 2) base av r s l _ _ _ _ _ _ _ _ _ _ (((hl.alloc _).alloc _).alloc _) (Blk.newAt (by simp)) (by omega)).mono ?_
  rintro e w1 ⟨rfl, av1, hl1, hs1⟩
  have bS := hs1.blk (((hl.alloc _).alloc _).alloc _) (((Blk.newAt rfl).alloc _).alloc _) (by decide) (.inl (by decide))
  have hS1 := ((((LS.refl w g av).alloc _).alloc _).alloc _).trans hs1
  have hz := hs1.keep.size
  simp at hz
  have hz0 : w.heap.size < w1.heap.size := by omega
  have s0 := bS.cell 0
  have s1 := bS.cell 1
  have s2 := bS.cell 2
  have s3 := bS.cell 3
  have s4 := bS.cell 4
  have s5 := bS.cell 5
  have s6 := bS.cell 6
  have s7 := bS.cell 7
  have s8 := bS.cell 8
  have s9 := bS.cell 9
  have s10 := bS.cell 10
  simp at s0 s1 s2 s3 s4 s5 s6 s7 s8 s9 s10
  go_wp2_with (first | (rw [hins]; rotate_left; rfl))
  have hl1' := hl1.alloc (.map #[⟨.int .i64 0, .func (.func 12) #[.pointer (some ⟨g, 0, none⟩)] #[], 0⟩, ⟨.int .i64 1, .func (.func 13) #[.pointer (some ⟨g, 0, none⟩)] #[], 1⟩, ⟨.int .i64 2, .func (.func 14) #[.pointer (some ⟨g, 0, none⟩)] #[], 2⟩, ⟨.int .i64 3, .func (.func 15) #[.pointer (some ⟨g, 0, none⟩)] #[], 3⟩, ⟨.int .i64 4, .func (.func 16) #[.pointer (some ⟨g, 0, none⟩)] #[], 4⟩, ⟨.int .i64 5, .func (.func 17) #[.pointer (some ⟨g, 0, none⟩)] #[], 5⟩, ⟨.int .i64 6, .func (.func 18) #[.pointer (some ⟨g, 0, none⟩)] #[], 6⟩, ⟨.int .i64 8, .func (.func 19) #[.pointer (some ⟨g, 0, none⟩)] #[], 7⟩, ⟨.int .i64 9, .func (.func 20) #[.pointer (some ⟨g, 0, none⟩)] #[], 8⟩, ⟨.int .i64 10, .func (.func 20) #[.pointer (some ⟨g, 0, none⟩)] #[], 9⟩] 10)
  have hS1' := hS1.alloc (.map #[⟨.int .i64 0, .func (.func 12) #[.pointer (some ⟨g, 0, none⟩)] #[], 0⟩, ⟨.int .i64 1, .func (.func 13) #[.pointer (some ⟨g, 0, none⟩)] #[], 1⟩, ⟨.int .i64 2, .func (.func 14) #[.pointer (some ⟨g, 0, none⟩)] #[], 2⟩, ⟨.int .i64 3, .func (.func 15) #[.pointer (some ⟨g, 0, none⟩)] #[], 3⟩, ⟨.int .i64 4, .func (.func 16) #[.pointer (some ⟨g, 0, none⟩)] #[], 4⟩, ⟨.int .i64 5, .func (.func 17) #[.pointer (some ⟨g, 0, none⟩)] #[], 5⟩, ⟨.int .i64 6, .func (.func 18) #[.pointer (some ⟨g, 0, none⟩)] #[], 6⟩, ⟨.int .i64 8, .func (.func 19) #[.pointer (some ⟨g, 0, none⟩)] #[], 7⟩, ⟨.int .i64 9, .func (.func 20) #[.pointer (some ⟨g, 0, none⟩)] #[], 8⟩, ⟨.int .i64 10, .func (.func 20) #[.pointer (some ⟨g, 0, none⟩)] #[], 9⟩] 10)
  have hes' := hes.step hl hS1'
  refine (HDO.out _ av1 _ hl1' hes' (by simp; omega) (by omega) (by simpa using hcap)).mono ?_
  rintro e w2 ⟨rfl, av2, hl2, hs2⟩
  have bS2 := hs2.blk hl1' (bS.alloc _) (by decide) (.inl (by decide))
  have hS2 := hS1'.trans hs2
  clear s0 s1 s2 s3 s4 s5 s6 s7 s8 s9 s10
  have s0 := bS2.cell 0
  have s1 := bS2.cell 1
  have s2 := bS2.cell 2
  have s3 := bS2.cell 3
  have s4 := bS2.cell 4
  have s5 := bS2.cell 5
  have s6 := bS2.cell 6
  have s7 := bS2.cell 7
  have s8 := bS2.cell 8
  have s9 := bS2.cell 9
  have s10 := bS2.cell 10
  simp at s0 s1 s2 s3 s4 s5 s6 s7 s8 s9 s10
  go_wp2_with fail
  go_end0
  exact ⟨rfl, av2, by simpa [oneL, bodyL] using hl2, hS2⟩

set_option maxRecDepth 100000 in
set_option maxHeartbeats 6400000 in
theorem one_10 (w : World) (g base : Nat) (av : Value) (r s : Int) (l : List I9) (line var addr count ty func reg next els : Int) (es : List EV) (A : Option Addr) (c : Nat)
    (hl : Low w g base av r s l) (hes : RepEs w base A es) (hpre : es = [] ∨ ∃ x, es = [x] ∧ x.ok) (hn : l.length + SV.most ⟨10, line, var, addr, count, ty, es, func, reg, next, els⟩ < 1000000000000) (hr0 : 0 ≤ r) (hr1 : r + SV.most ⟨10, line, var, addr, count, ty, es, func, reg, next, els⟩ < 1000000000000000) (hcap : es.length ≤ c) (hs0 : 0 ≤ s) (hs1 : s < 1000000000000) :
    Calls Try.prog 10 #[.pointer (some ⟨g, 0, none⟩), .agg (SV.cells ⟨10, line, var, addr, count, ty, es, func, reg, next, els⟩ A c)] w fun e w' =>
    e = .returned (.tuple #[]) ∧ ∃ av', Low w' g base av' (oneL ⟨10, line, var, addr, count, ty, es, func, reg, next, els⟩ r s).2 s (l ++ (oneL ⟨10, line, var, addr, count, ty, es, func, reg, next, els⟩ r s).1) ∧ LS w w' g av av' := by
  have hdo := fun W AV L hl hes hn => back_any W g base AV r s L ⟨10, line, var, addr, count, ty, es, func, reg, next, els⟩ A c hl hes hpre hn hr0
  simp only [SV.cells] at hdo
  have HDO := Lib.hid hdo
  clear hdo
  have hlen := backL_len ⟨10, line, var, addr, count, ty, es, func, reg, next, els⟩ r s
  have hmost := sizes_le es
  simp only [SV.most] at hn hr1
  simp only at hlen
  have hglt := hl.blk.lt
  have hbase := hl.low
  have l2 := hl.blk.cell 2
  simp at l2
  have hmm := @run_makeMap Try.prog
  have hins := fun W es c n v h => run_mapUpdate_new (P := Try.prog) 48 3 44 Try.underlying48 .i64 Try.underlying3 W es c n v h
  have hlk := fun W => run_lookup_last (P := Try.prog) 48 3 44 Try.underlying48 .i64 Try.underlying3 W #[⟨.int .i64 0, .func (.func 12) #[.pointer (some ⟨g, 0, none⟩)] #[], 0⟩, ⟨.int .i64 1, .func (.func 13) #[.pointer (some ⟨g, 0, none⟩)] #[], 1⟩, ⟨.int .i64 2, .func (.func 14) #[.pointer (some ⟨g, 0, none⟩)] #[], 2⟩, ⟨.int .i64 3, .func (.func 15) #[.pointer (some ⟨g, 0, none⟩)] #[], 3⟩, ⟨.int .i64 4, .func (.func 16) #[.pointer (some ⟨g, 0, none⟩)] #[], 4⟩, ⟨.int .i64 5, .func (.func 17) #[.pointer (some ⟨g, 0, none⟩)] #[], 5⟩, ⟨.int .i64 6, .func (.func 18) #[.pointer (some ⟨g, 0, none⟩)] #[], 6⟩, ⟨.int .i64 8, .func (.func 19) #[.pointer (some ⟨g, 0, none⟩)] #[], 7⟩, ⟨.int .i64 9, .func (.func 20) #[.pointer (some ⟨g, 0, none⟩)] #[], 8⟩, ⟨.int .i64 10, .func (.func 20) #[.pointer (some ⟨g, 0, none⟩)] #[], 9⟩] 10 10 9 _ rfl
  unfold SV.cells
  go_enter Try.func10, Try.ntmps10
  go_wp2_with fail
  refine (add_one _ g (w.heap.size + 2) base av r s l _ _ _ _ _ _ _ _ _ _ (((hl.alloc _).alloc _).alloc _) (Blk.newAt (by simp)) (by omega)).mono ?_
  rintro e w1 ⟨rfl, av1, hl1, hs1⟩
  have bS := hs1.blk (((hl.alloc _).alloc _).alloc _) (((Blk.newAt rfl).alloc _).alloc _) (by decide) (.inl (by decide))
  have hS1 := ((((LS.refl w g av).alloc _).alloc _).alloc _).trans hs1
  have hz := hs1.keep.size
  simp at hz
  have hz0 : w.heap.size < w1.heap.size := by omega
  have s0 := bS.cell 0
  have s1 := bS.cell 1
  have s2 := bS.cell 2
  have s3 := bS.cell 3
  have s4 := bS.cell 4
  have s5 := bS.cell 5
  have s6 := bS.cell 6
  have s7 := bS.cell 7
  have s8 := bS.cell 8
  have s9 := bS.cell 9
  have s10 := bS.cell 10
  simp at s0 s1 s2 s3 s4 s5 s6 s7 s8 s9 s10
  go_wp2_with (first | (rw [hins]; rotate_left; rfl))
  have hl1' := hl1.alloc (.map #[⟨.int .i64 0, .func (.func 12) #[.pointer (some ⟨g, 0, none⟩)] #[], 0⟩, ⟨.int .i64 1, .func (.func 13) #[.pointer (some ⟨g, 0, none⟩)] #[], 1⟩, ⟨.int .i64 2, .func (.func 14) #[.pointer (some ⟨g, 0, none⟩)] #[], 2⟩, ⟨.int .i64 3, .func (.func 15) #[.pointer (some ⟨g, 0, none⟩)] #[], 3⟩, ⟨.int .i64 4, .func (.func 16) #[.pointer (some ⟨g, 0, none⟩)] #[], 4⟩, ⟨.int .i64 5, .func (.func 17) #[.pointer (some ⟨g, 0, none⟩)] #[], 5⟩, ⟨.int .i64 6, .func (.func 18) #[.pointer (some ⟨g, 0, none⟩)] #[], 6⟩, ⟨.int .i64 8, .func (.func 19) #[.pointer (some ⟨g, 0, none⟩)] #[], 7⟩, ⟨.int .i64 9, .func (.func 20) #[.pointer (some ⟨g, 0, none⟩)] #[], 8⟩, ⟨.int .i64 10, .func (.func 20) #[.pointer (some ⟨g, 0, none⟩)] #[], 9⟩] 10)
  have hS1' := hS1.alloc (.map #[⟨.int .i64 0, .func (.func 12) #[.pointer (some ⟨g, 0, none⟩)] #[], 0⟩, ⟨.int .i64 1, .func (.func 13) #[.pointer (some ⟨g, 0, none⟩)] #[], 1⟩, ⟨.int .i64 2, .func (.func 14) #[.pointer (some ⟨g, 0, none⟩)] #[], 2⟩, ⟨.int .i64 3, .func (.func 15) #[.pointer (some ⟨g, 0, none⟩)] #[], 3⟩, ⟨.int .i64 4, .func (.func 16) #[.pointer (some ⟨g, 0, none⟩)] #[], 4⟩, ⟨.int .i64 5, .func (.func 17) #[.pointer (some ⟨g, 0, none⟩)] #[], 5⟩, ⟨.int .i64 6, .func (.func 18) #[.pointer (some ⟨g, 0, none⟩)] #[], 6⟩, ⟨.int .i64 8, .func (.func 19) #[.pointer (some ⟨g, 0, none⟩)] #[], 7⟩, ⟨.int .i64 9, .func (.func 20) #[.pointer (some ⟨g, 0, none⟩)] #[], 8⟩, ⟨.int .i64 10, .func (.func 20) #[.pointer (some ⟨g, 0, none⟩)] #[], 9⟩] 10)
  have hes' := hes.step hl hS1'
  refine (HDO.out _ av1 _ hl1' hes' (by simp; omega) (by omega) (by simpa using hcap)).mono ?_
  rintro e w2 ⟨rfl, av2, hl2, hs2⟩
  have bS2 := hs2.blk hl1' (bS.alloc _) (by decide) (.inl (by decide))
  have hS2 := hS1'.trans hs2
  clear s0 s1 s2 s3 s4 s5 s6 s7 s8 s9 s10
  have s0 := bS2.cell 0
  have s1 := bS2.cell 1
  have s2 := bS2.cell 2
  have s3 := bS2.cell 3
  have s4 := bS2.cell 4
  have s5 := bS2.cell 5
  have s6 := bS2.cell 6
  have s7 := bS2.cell 7
  have s8 := bS2.cell 8
  have s9 := bS2.cell 9
  have s10 := bS2.cell 10
  simp at s0 s1 s2 s3 s4 s5 s6 s7 s8 s9 s10
  go_wp2_with fail
  go_end0
  exact ⟨rfl, av2, by simpa [oneL, bodyL] using hl2, hS2⟩

theorem one_any (w : World) (g base : Nat) (av : Value) (r s : Int) (l : List I9) (st : SV) (A : Option Addr) (c : Nat)
    (hl : Low w g base av r s l) (hes : RepEs w base A st.es) (hok : st.ok) (hn : l.length + st.most < 1000000000000) (hr0 : 0 ≤ r) (hr1 : r + st.most < 1000000000000000) (hcap : st.es.length ≤ c) (hs0 : 0 ≤ s) (hs1 : s < 1000000000000) :
    Calls Try.prog 10 #[.pointer (some ⟨g, 0, none⟩), .agg (st.cells A c)] w fun e w' =>
    e = .returned (.tuple #[]) ∧ ∃ av', Low w' g base av' (oneL st r s).2 s (l ++ (oneL st r s).1) ∧ LS w w' g av av' := by
  obtain ⟨op, line, var, addr, count, ty, es, func, reg, next, els⟩ := st
  simp only [SV.ok] at hok
  rcases hok with ⟨rfl, h⟩ | ⟨rfl, h⟩ | rfl | ⟨rfl | rfl, h⟩ | rfl | rfl | rfl | rfl | ⟨rfl | rfl, h⟩
  · exact one_0 w g base av r s l line var addr count ty func reg next els es A c hl hes h hn hr0 hr1 hcap hs0 hs1
  · exact one_1 w g base av r s l line var addr count ty func reg next els es A c hl hes h hn hr0 hr1 hcap hs0 hs1
  · exact one_2 w g base av r s l line var addr count ty func reg next els es A c hl hes trivial hn hr0 hr1 hcap hs0 hs1
  · exact one_3 w g base av r s l line var addr count ty func reg next els es A c hl hes h hn hr0 hr1 hcap hs0 hs1
  · exact one_4 w g base av r s l line var addr count ty func reg next els es A c hl hes h hn hr0 hr1 hcap hs0 hs1
  · exact one_5 w g base av r s l line var addr count ty func reg next els es A c hl hes trivial hn hr0 hr1 hcap hs0 hs1
  · exact one_6 w g base av r s l line var addr count ty func reg next els es A c hl hes trivial hn hr0 hr1 hcap hs0 hs1
  · exact one_7 w g base av r s l line var addr count ty func reg next els es A c hl hes trivial hn hr0 hr1 hcap hs0 hs1
  · exact one_8 w g base av r s l line var addr count ty func reg next els es A c hl hes trivial hn hr0 hr1 hcap hs0 hs1
  · exact one_9 w g base av r s l line var addr count ty func reg next els es A c hl hes h hn hr0 hr1 hcap hs0 hs1
  · exact one_10 w g base av r s l line var addr count ty func reg next els es A c hl hes h hn hr0 hr1 hcap hs0 hs1
end Go.Proofs.Ytekciedoldiieaa

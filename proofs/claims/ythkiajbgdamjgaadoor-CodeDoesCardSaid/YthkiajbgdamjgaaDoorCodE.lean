/- Package code: Select, of whatever instruction. -/
import Derived.Test.YthkiajbgdamjgaaDoorCodD
namespace Go.Proofs.YthkiajbgdamjgaaDoor
set_option linter.unusedVariables false
open Go.RowKit

/-- What Select chooses. -/
def selL (i : I9) (hs : List HV) (bs : Int) : List C5 :=
  if i.op = 0 then [⟨0, 0, 0, 0, wrap32 i.n⟩] else
  if i.op = 1 then makeL hs bs i.d ⟨2, 0, 0, 0, wrap32 i.n⟩ else
  if i.op = 2 then moveL i hs bs else
  if i.op = 3 then readL hs bs i.a 6 ++ (readL hs bs i.b 7 ++ makeL hs bs i.d ⟨4, 0, readR hs i.a 6, readR hs i.b 7, wrap32 (wrap64 (wrap64 (i.op2 * 4) + i.ty))⟩) else
  if i.op = 4 then readL hs bs i.a 6 ++ makeL hs bs i.d ⟨5, 0, readR hs i.a 6, 0, wrap32 (wrap64 (wrap64 (i.op2 * 4) + i.ty))⟩ else
  if i.op = 5 then makeL hs bs i.d ⟨6, 0, 0, 0, wrap32 i.n⟩ else
  if i.op = 6 then readL hs bs i.a 6 ++ [⟨7, readR hs i.a 6, 0, 0, wrap32 i.n⟩] else
  if i.op = 7 then readL hs bs i.a 6 ++ makeL hs bs i.d ⟨8, 0, readR hs i.a 6, 0, wrap32 (wrap64 (wrap64 (i.n * 128) + i.count))⟩ else
  if i.op = 8 then readL hs bs i.a 6 ++ (readL hs bs i.b 7 ++ [⟨9, readR hs i.b 7, readR hs i.a 6, 0, wrap32 (wrap64 (wrap64 (i.n * 128) + i.count))⟩]) else
  if i.op = 9 then makeL hs bs i.d ⟨10, 0, 0, 0, wrap32 i.n⟩ else
  if i.op = 10 then readL hs bs i.a 6 ++ [⟨11, readR hs i.a 6, 0, 0, wrap32 i.n⟩] else
  if i.op = 11 then readL hs bs i.a 6 ++ [⟨14, readR hs i.a 6, 0, 0, wrap32 i.n⟩] else
  if i.op = 12 then [⟨15, 0, 0, 0, wrap32 i.n⟩] else
  if i.op = 13 then makeL hs bs i.d ⟨19, 0, 0, 0, 0⟩ else
  if i.op = 14 then readL hs bs i.a 6 ++ [⟨17, readR hs i.a 6, 0, 0, wrap32 i.n⟩] else
  if i.op = 15 then [⟨20, 0, 0, 0, wrap32 i.n⟩] else
  if i.op = 16 then readL hs bs i.a 6 ++ [⟨21, readR hs i.a 6, 0, 0, wrap32 i.n⟩] else
  if i.op = 17 then [⟨22, 0, 0, 0, wrap32 i.n⟩] else
  if i.op = 18 then [⟨1, 0, 0, 0, wrap32 i.n⟩] else
  if i.op = 19 then [⟨23, 0, 0, 0, wrap32 i.n⟩] else
  []

/-- What a call of Select leaves: the machine's instructions, in new memory. -/
def Selects (w : World) (l : List C5) (e : Ending) (w' : World) : Prop :=
  ∃ ov, e = .returned ov ∧ w'.ownsRow w.heap.size 49 5 ov l.length (codeCells l) ∧ Below w.heap.size w w'

set_option maxRecDepth 100000 in
set_option maxHeartbeats 6400000 in
theorem sel_0 (w : World) (i : I9) (A : Option Addr) (hs : List HV) (hc : Nat) (bs : Int) (hh : RepH w w.heap.size A hs) (hm : hs.length < 1000000000000000000) (hop : i.op = 0) :
    Calls Tryd.prog 9 #[.agg #[.int .i64 i.op, .int .i64 i.op2, .int .i64 i.ty, .int .i64 i.d, .int .i64 i.a, .int .i64 i.b, .int .i64 i.n, .int .i64 i.count, .int .i64 i.step], .slice A hs.length hc, .int .i64 bs] w (Selects w ([⟨0, 0, 0, 0, wrap32 i.n⟩])) := by
  obtain ⟨op, op2, ty, d, a, b, n, count, step⟩ := i
  simp only at hop
  subst hop
  have hdo := fun W g hl => stop_any W g w.heap.size ⟨0, op2, ty, d, a, b, n, count, step⟩ A hs hc bs (.slice none 0 0) [] hl (by simp)
  have HDO := Lib.hid hdo
  clear hdo
  have hmm := @run_makeMap Tryd.prog
  have hins := fun W k hk es c n v h => run_mapUpdate_at (P := Tryd.prog) 66 3 64 Tryd.underlying66 .i64 Tryd.underlying3 W k hk es c n v h
  have hlk := fun W k hk => run_lookup_at (P := Tryd.prog) 66 3 64 Tryd.underlying66 .i64 Tryd.underlying3 W k hk #[⟨.int .i64 0, .func (.func 21) #[] #[], 0⟩, ⟨.int .i64 18, .func (.func 22) #[] #[], 1⟩, ⟨.int .i64 15, .func (.func 23) #[] #[], 2⟩, ⟨.int .i64 12, .func (.func 24) #[] #[], 3⟩, ⟨.int .i64 17, .func (.func 25) #[] #[], 4⟩, ⟨.int .i64 19, .func (.func 26) #[] #[], 5⟩, ⟨.int .i64 1, .func (.func 27) #[] #[], 6⟩, ⟨.int .i64 5, .func (.func 28) #[] #[], 7⟩, ⟨.int .i64 9, .func (.func 29) #[] #[], 8⟩, ⟨.int .i64 13, .func (.func 30) #[] #[], 9⟩, ⟨.int .i64 2, .func (.func 31) #[] #[], 10⟩, ⟨.int .i64 3, .func (.func 32) #[] #[], 11⟩, ⟨.int .i64 4, .func (.func 33) #[] #[], 12⟩, ⟨.int .i64 7, .func (.func 34) #[] #[], 13⟩, ⟨.int .i64 8, .func (.func 35) #[] #[], 14⟩, ⟨.int .i64 6, .func (.func 36) #[] #[], 15⟩, ⟨.int .i64 10, .func (.func 37) #[] #[], 16⟩, ⟨.int .i64 11, .func (.func 38) #[] #[], 17⟩, ⟨.int .i64 16, .func (.func 39) #[] #[], 18⟩, ⟨.int .i64 14, .func (.func 40) #[] #[], 19⟩] 20 0 0 _ rfl
  go_enter Tryd.func9, Tryd.ntmps9
  go_wp2_with (first | (rw [hins]; rotate_left; (focus (simp; done)); (focus rfl)))
  have hcho : Cho ((w.alloc (.cells #[.int .i64 0, .int .i64 op2, .int .i64 ty, .int .i64 d, .int .i64 a, .int .i64 b, .int .i64 n, .int .i64 count, .int .i64 step] 23)).alloc (.cells #[.int .i64 0, .int .i64 op2, .int .i64 ty, .int .i64 d, .int .i64 a, .int .i64 b, .int .i64 n, .int .i64 count, .int .i64 step, .slice A hs.length hc, .int .i64 bs, .slice none 0 0] 63)) (w.heap.size + 1) w.heap.size ⟨0, op2, ty, d, a, b, n, count, step⟩ A hs hc bs (.slice none 0 0) [] :=
    ⟨Blk.newAt (by simp), World.ownsRow_nil _ _ _ _, hh.kept (S := fun _ => False) (((Keep.refl w _).alloc _).alloc _) (Nat.le_refl _) (fun _ _ h => h), by simp; omega, by omega, hm⟩
  refine (HDO.out _ _ (hcho.alloc _)).mono ?_
  rintro e w1 ⟨rfl, ov, hl1, hs1⟩
  have hglt := hl1.blk.lt
  have l11 := hl1.blk.cell 11
  simp at l11
  go_wp2_with fail
  go_ret
  refine ⟨ov, rfl, by simpa using hl1.own, ?_⟩
  have hb0 : Below w.heap.size w (((w.alloc (.cells #[.int .i64 0, .int .i64 op2, .int .i64 ty, .int .i64 d, .int .i64 a, .int .i64 b, .int .i64 n, .int .i64 count, .int .i64 step] 23)).alloc (.cells #[.int .i64 0, .int .i64 op2, .int .i64 ty, .int .i64 d, .int .i64 a, .int .i64 b, .int .i64 n, .int .i64 count, .int .i64 step, .slice A hs.length hc, .int .i64 bs, .slice none 0 0] 63)).alloc (.map #[⟨.int .i64 0, .func (.func 21) #[] #[], 0⟩, ⟨.int .i64 18, .func (.func 22) #[] #[], 1⟩, ⟨.int .i64 15, .func (.func 23) #[] #[], 2⟩, ⟨.int .i64 12, .func (.func 24) #[] #[], 3⟩, ⟨.int .i64 17, .func (.func 25) #[] #[], 4⟩, ⟨.int .i64 19, .func (.func 26) #[] #[], 5⟩, ⟨.int .i64 1, .func (.func 27) #[] #[], 6⟩, ⟨.int .i64 5, .func (.func 28) #[] #[], 7⟩, ⟨.int .i64 9, .func (.func 29) #[] #[], 8⟩, ⟨.int .i64 13, .func (.func 30) #[] #[], 9⟩, ⟨.int .i64 2, .func (.func 31) #[] #[], 10⟩, ⟨.int .i64 3, .func (.func 32) #[] #[], 11⟩, ⟨.int .i64 4, .func (.func 33) #[] #[], 12⟩, ⟨.int .i64 7, .func (.func 34) #[] #[], 13⟩, ⟨.int .i64 8, .func (.func 35) #[] #[], 14⟩, ⟨.int .i64 6, .func (.func 36) #[] #[], 15⟩, ⟨.int .i64 10, .func (.func 37) #[] #[], 16⟩, ⟨.int .i64 11, .func (.func 38) #[] #[], 17⟩, ⟨.int .i64 16, .func (.func 39) #[] #[], 18⟩, ⟨.int .i64 14, .func (.func 40) #[] #[], 19⟩] 20)) := (((Below.refl _ _).alloc (Nat.le_refl _) _).alloc (by simp) _).alloc (by simp; omega) _
  exact hb0.trans (hs1.keep.below (by simp; omega) (fun k hk hc => by
    rcases hc with hc | hc
    · omega
    · simp [Value.ownBlock] at hc))

set_option maxRecDepth 100000 in
set_option maxHeartbeats 6400000 in
theorem sel_1 (w : World) (i : I9) (A : Option Addr) (hs : List HV) (hc : Nat) (bs : Int) (hh : RepH w w.heap.size A hs) (hm : hs.length < 1000000000000000000) (hop : i.op = 1) :
    Calls Tryd.prog 9 #[.agg #[.int .i64 i.op, .int .i64 i.op2, .int .i64 i.ty, .int .i64 i.d, .int .i64 i.a, .int .i64 i.b, .int .i64 i.n, .int .i64 i.count, .int .i64 i.step], .slice A hs.length hc, .int .i64 bs] w (Selects w (makeL hs bs i.d ⟨2, 0, 0, 0, wrap32 i.n⟩)) := by
  obtain ⟨op, op2, ty, d, a, b, n, count, step⟩ := i
  simp only at hop
  subst hop
  have hdo := fun W g hl => number_any W g w.heap.size ⟨1, op2, ty, d, a, b, n, count, step⟩ A hs hc bs (.slice none 0 0) [] hl (by simp)
  have HDO := Lib.hid hdo
  clear hdo
  have hmm := @run_makeMap Tryd.prog
  have hins := fun W k hk es c n v h => run_mapUpdate_at (P := Tryd.prog) 66 3 64 Tryd.underlying66 .i64 Tryd.underlying3 W k hk es c n v h
  have hlk := fun W k hk => run_lookup_at (P := Tryd.prog) 66 3 64 Tryd.underlying66 .i64 Tryd.underlying3 W k hk #[⟨.int .i64 0, .func (.func 21) #[] #[], 0⟩, ⟨.int .i64 18, .func (.func 22) #[] #[], 1⟩, ⟨.int .i64 15, .func (.func 23) #[] #[], 2⟩, ⟨.int .i64 12, .func (.func 24) #[] #[], 3⟩, ⟨.int .i64 17, .func (.func 25) #[] #[], 4⟩, ⟨.int .i64 19, .func (.func 26) #[] #[], 5⟩, ⟨.int .i64 1, .func (.func 27) #[] #[], 6⟩, ⟨.int .i64 5, .func (.func 28) #[] #[], 7⟩, ⟨.int .i64 9, .func (.func 29) #[] #[], 8⟩, ⟨.int .i64 13, .func (.func 30) #[] #[], 9⟩, ⟨.int .i64 2, .func (.func 31) #[] #[], 10⟩, ⟨.int .i64 3, .func (.func 32) #[] #[], 11⟩, ⟨.int .i64 4, .func (.func 33) #[] #[], 12⟩, ⟨.int .i64 7, .func (.func 34) #[] #[], 13⟩, ⟨.int .i64 8, .func (.func 35) #[] #[], 14⟩, ⟨.int .i64 6, .func (.func 36) #[] #[], 15⟩, ⟨.int .i64 10, .func (.func 37) #[] #[], 16⟩, ⟨.int .i64 11, .func (.func 38) #[] #[], 17⟩, ⟨.int .i64 16, .func (.func 39) #[] #[], 18⟩, ⟨.int .i64 14, .func (.func 40) #[] #[], 19⟩] 20 1 6 _ rfl
  go_enter Tryd.func9, Tryd.ntmps9
  go_wp2_with (first | (rw [hins]; rotate_left; (focus (simp; done)); (focus rfl)))
  have hcho : Cho ((w.alloc (.cells #[.int .i64 1, .int .i64 op2, .int .i64 ty, .int .i64 d, .int .i64 a, .int .i64 b, .int .i64 n, .int .i64 count, .int .i64 step] 23)).alloc (.cells #[.int .i64 1, .int .i64 op2, .int .i64 ty, .int .i64 d, .int .i64 a, .int .i64 b, .int .i64 n, .int .i64 count, .int .i64 step, .slice A hs.length hc, .int .i64 bs, .slice none 0 0] 63)) (w.heap.size + 1) w.heap.size ⟨1, op2, ty, d, a, b, n, count, step⟩ A hs hc bs (.slice none 0 0) [] :=
    ⟨Blk.newAt (by simp), World.ownsRow_nil _ _ _ _, hh.kept (S := fun _ => False) (((Keep.refl w _).alloc _).alloc _) (Nat.le_refl _) (fun _ _ h => h), by simp; omega, by omega, hm⟩
  refine (HDO.out _ _ (hcho.alloc _)).mono ?_
  rintro e w1 ⟨rfl, ov, hl1, hs1⟩
  have hglt := hl1.blk.lt
  have l11 := hl1.blk.cell 11
  simp at l11
  go_wp2_with fail
  go_ret
  refine ⟨ov, rfl, by simpa using hl1.own, ?_⟩
  have hb0 : Below w.heap.size w (((w.alloc (.cells #[.int .i64 1, .int .i64 op2, .int .i64 ty, .int .i64 d, .int .i64 a, .int .i64 b, .int .i64 n, .int .i64 count, .int .i64 step] 23)).alloc (.cells #[.int .i64 1, .int .i64 op2, .int .i64 ty, .int .i64 d, .int .i64 a, .int .i64 b, .int .i64 n, .int .i64 count, .int .i64 step, .slice A hs.length hc, .int .i64 bs, .slice none 0 0] 63)).alloc (.map #[⟨.int .i64 0, .func (.func 21) #[] #[], 0⟩, ⟨.int .i64 18, .func (.func 22) #[] #[], 1⟩, ⟨.int .i64 15, .func (.func 23) #[] #[], 2⟩, ⟨.int .i64 12, .func (.func 24) #[] #[], 3⟩, ⟨.int .i64 17, .func (.func 25) #[] #[], 4⟩, ⟨.int .i64 19, .func (.func 26) #[] #[], 5⟩, ⟨.int .i64 1, .func (.func 27) #[] #[], 6⟩, ⟨.int .i64 5, .func (.func 28) #[] #[], 7⟩, ⟨.int .i64 9, .func (.func 29) #[] #[], 8⟩, ⟨.int .i64 13, .func (.func 30) #[] #[], 9⟩, ⟨.int .i64 2, .func (.func 31) #[] #[], 10⟩, ⟨.int .i64 3, .func (.func 32) #[] #[], 11⟩, ⟨.int .i64 4, .func (.func 33) #[] #[], 12⟩, ⟨.int .i64 7, .func (.func 34) #[] #[], 13⟩, ⟨.int .i64 8, .func (.func 35) #[] #[], 14⟩, ⟨.int .i64 6, .func (.func 36) #[] #[], 15⟩, ⟨.int .i64 10, .func (.func 37) #[] #[], 16⟩, ⟨.int .i64 11, .func (.func 38) #[] #[], 17⟩, ⟨.int .i64 16, .func (.func 39) #[] #[], 18⟩, ⟨.int .i64 14, .func (.func 40) #[] #[], 19⟩] 20)) := (((Below.refl _ _).alloc (Nat.le_refl _) _).alloc (by simp) _).alloc (by simp; omega) _
  exact hb0.trans (hs1.keep.below (by simp; omega) (fun k hk hc => by
    rcases hc with hc | hc
    · omega
    · simp [Value.ownBlock] at hc))

set_option maxRecDepth 100000 in
set_option maxHeartbeats 6400000 in
theorem sel_2 (w : World) (i : I9) (A : Option Addr) (hs : List HV) (hc : Nat) (bs : Int) (hh : RepH w w.heap.size A hs) (hm : hs.length < 1000000000000000000) (hop : i.op = 2) :
    Calls Tryd.prog 9 #[.agg #[.int .i64 i.op, .int .i64 i.op2, .int .i64 i.ty, .int .i64 i.d, .int .i64 i.a, .int .i64 i.b, .int .i64 i.n, .int .i64 i.count, .int .i64 i.step], .slice A hs.length hc, .int .i64 bs] w (Selects w (moveL i hs bs)) := by
  obtain ⟨op, op2, ty, d, a, b, n, count, step⟩ := i
  simp only at hop
  subst hop
  have hdo := fun W g hl => move_any W g w.heap.size ⟨2, op2, ty, d, a, b, n, count, step⟩ A hs hc bs (.slice none 0 0) [] hl (by simp)
  have HDO := Lib.hid hdo
  clear hdo
  have hmm := @run_makeMap Tryd.prog
  have hins := fun W k hk es c n v h => run_mapUpdate_at (P := Tryd.prog) 66 3 64 Tryd.underlying66 .i64 Tryd.underlying3 W k hk es c n v h
  have hlk := fun W k hk => run_lookup_at (P := Tryd.prog) 66 3 64 Tryd.underlying66 .i64 Tryd.underlying3 W k hk #[⟨.int .i64 0, .func (.func 21) #[] #[], 0⟩, ⟨.int .i64 18, .func (.func 22) #[] #[], 1⟩, ⟨.int .i64 15, .func (.func 23) #[] #[], 2⟩, ⟨.int .i64 12, .func (.func 24) #[] #[], 3⟩, ⟨.int .i64 17, .func (.func 25) #[] #[], 4⟩, ⟨.int .i64 19, .func (.func 26) #[] #[], 5⟩, ⟨.int .i64 1, .func (.func 27) #[] #[], 6⟩, ⟨.int .i64 5, .func (.func 28) #[] #[], 7⟩, ⟨.int .i64 9, .func (.func 29) #[] #[], 8⟩, ⟨.int .i64 13, .func (.func 30) #[] #[], 9⟩, ⟨.int .i64 2, .func (.func 31) #[] #[], 10⟩, ⟨.int .i64 3, .func (.func 32) #[] #[], 11⟩, ⟨.int .i64 4, .func (.func 33) #[] #[], 12⟩, ⟨.int .i64 7, .func (.func 34) #[] #[], 13⟩, ⟨.int .i64 8, .func (.func 35) #[] #[], 14⟩, ⟨.int .i64 6, .func (.func 36) #[] #[], 15⟩, ⟨.int .i64 10, .func (.func 37) #[] #[], 16⟩, ⟨.int .i64 11, .func (.func 38) #[] #[], 17⟩, ⟨.int .i64 16, .func (.func 39) #[] #[], 18⟩, ⟨.int .i64 14, .func (.func 40) #[] #[], 19⟩] 20 2 10 _ rfl
  go_enter Tryd.func9, Tryd.ntmps9
  go_wp2_with (first | (rw [hins]; rotate_left; (focus (simp; done)); (focus rfl)))
  have hcho : Cho ((w.alloc (.cells #[.int .i64 2, .int .i64 op2, .int .i64 ty, .int .i64 d, .int .i64 a, .int .i64 b, .int .i64 n, .int .i64 count, .int .i64 step] 23)).alloc (.cells #[.int .i64 2, .int .i64 op2, .int .i64 ty, .int .i64 d, .int .i64 a, .int .i64 b, .int .i64 n, .int .i64 count, .int .i64 step, .slice A hs.length hc, .int .i64 bs, .slice none 0 0] 63)) (w.heap.size + 1) w.heap.size ⟨2, op2, ty, d, a, b, n, count, step⟩ A hs hc bs (.slice none 0 0) [] :=
    ⟨Blk.newAt (by simp), World.ownsRow_nil _ _ _ _, hh.kept (S := fun _ => False) (((Keep.refl w _).alloc _).alloc _) (Nat.le_refl _) (fun _ _ h => h), by simp; omega, by omega, hm⟩
  refine (HDO.out _ _ (hcho.alloc _)).mono ?_
  rintro e w1 ⟨rfl, ov, hl1, hs1⟩
  have hglt := hl1.blk.lt
  have l11 := hl1.blk.cell 11
  simp at l11
  go_wp2_with fail
  go_ret
  refine ⟨ov, rfl, by simpa using hl1.own, ?_⟩
  have hb0 : Below w.heap.size w (((w.alloc (.cells #[.int .i64 2, .int .i64 op2, .int .i64 ty, .int .i64 d, .int .i64 a, .int .i64 b, .int .i64 n, .int .i64 count, .int .i64 step] 23)).alloc (.cells #[.int .i64 2, .int .i64 op2, .int .i64 ty, .int .i64 d, .int .i64 a, .int .i64 b, .int .i64 n, .int .i64 count, .int .i64 step, .slice A hs.length hc, .int .i64 bs, .slice none 0 0] 63)).alloc (.map #[⟨.int .i64 0, .func (.func 21) #[] #[], 0⟩, ⟨.int .i64 18, .func (.func 22) #[] #[], 1⟩, ⟨.int .i64 15, .func (.func 23) #[] #[], 2⟩, ⟨.int .i64 12, .func (.func 24) #[] #[], 3⟩, ⟨.int .i64 17, .func (.func 25) #[] #[], 4⟩, ⟨.int .i64 19, .func (.func 26) #[] #[], 5⟩, ⟨.int .i64 1, .func (.func 27) #[] #[], 6⟩, ⟨.int .i64 5, .func (.func 28) #[] #[], 7⟩, ⟨.int .i64 9, .func (.func 29) #[] #[], 8⟩, ⟨.int .i64 13, .func (.func 30) #[] #[], 9⟩, ⟨.int .i64 2, .func (.func 31) #[] #[], 10⟩, ⟨.int .i64 3, .func (.func 32) #[] #[], 11⟩, ⟨.int .i64 4, .func (.func 33) #[] #[], 12⟩, ⟨.int .i64 7, .func (.func 34) #[] #[], 13⟩, ⟨.int .i64 8, .func (.func 35) #[] #[], 14⟩, ⟨.int .i64 6, .func (.func 36) #[] #[], 15⟩, ⟨.int .i64 10, .func (.func 37) #[] #[], 16⟩, ⟨.int .i64 11, .func (.func 38) #[] #[], 17⟩, ⟨.int .i64 16, .func (.func 39) #[] #[], 18⟩, ⟨.int .i64 14, .func (.func 40) #[] #[], 19⟩] 20)) := (((Below.refl _ _).alloc (Nat.le_refl _) _).alloc (by simp) _).alloc (by simp; omega) _
  exact hb0.trans (hs1.keep.below (by simp; omega) (fun k hk hc => by
    rcases hc with hc | hc
    · omega
    · simp [Value.ownBlock] at hc))

set_option maxRecDepth 100000 in
set_option maxHeartbeats 6400000 in
theorem sel_3 (w : World) (i : I9) (A : Option Addr) (hs : List HV) (hc : Nat) (bs : Int) (hh : RepH w w.heap.size A hs) (hm : hs.length < 1000000000000000000) (hop : i.op = 3) :
    Calls Tryd.prog 9 #[.agg #[.int .i64 i.op, .int .i64 i.op2, .int .i64 i.ty, .int .i64 i.d, .int .i64 i.a, .int .i64 i.b, .int .i64 i.n, .int .i64 i.count, .int .i64 i.step], .slice A hs.length hc, .int .i64 bs] w (Selects w (readL hs bs i.a 6 ++ (readL hs bs i.b 7 ++ makeL hs bs i.d ⟨4, 0, readR hs i.a 6, readR hs i.b 7, wrap32 (wrap64 (wrap64 (i.op2 * 4) + i.ty))⟩))) := by
  obtain ⟨op, op2, ty, d, a, b, n, count, step⟩ := i
  simp only at hop
  subst hop
  have hdo := fun W g hl => two_any W g w.heap.size ⟨3, op2, ty, d, a, b, n, count, step⟩ A hs hc bs (.slice none 0 0) [] hl (by simp)
  have HDO := Lib.hid hdo
  clear hdo
  have hmm := @run_makeMap Tryd.prog
  have hins := fun W k hk es c n v h => run_mapUpdate_at (P := Tryd.prog) 66 3 64 Tryd.underlying66 .i64 Tryd.underlying3 W k hk es c n v h
  have hlk := fun W k hk => run_lookup_at (P := Tryd.prog) 66 3 64 Tryd.underlying66 .i64 Tryd.underlying3 W k hk #[⟨.int .i64 0, .func (.func 21) #[] #[], 0⟩, ⟨.int .i64 18, .func (.func 22) #[] #[], 1⟩, ⟨.int .i64 15, .func (.func 23) #[] #[], 2⟩, ⟨.int .i64 12, .func (.func 24) #[] #[], 3⟩, ⟨.int .i64 17, .func (.func 25) #[] #[], 4⟩, ⟨.int .i64 19, .func (.func 26) #[] #[], 5⟩, ⟨.int .i64 1, .func (.func 27) #[] #[], 6⟩, ⟨.int .i64 5, .func (.func 28) #[] #[], 7⟩, ⟨.int .i64 9, .func (.func 29) #[] #[], 8⟩, ⟨.int .i64 13, .func (.func 30) #[] #[], 9⟩, ⟨.int .i64 2, .func (.func 31) #[] #[], 10⟩, ⟨.int .i64 3, .func (.func 32) #[] #[], 11⟩, ⟨.int .i64 4, .func (.func 33) #[] #[], 12⟩, ⟨.int .i64 7, .func (.func 34) #[] #[], 13⟩, ⟨.int .i64 8, .func (.func 35) #[] #[], 14⟩, ⟨.int .i64 6, .func (.func 36) #[] #[], 15⟩, ⟨.int .i64 10, .func (.func 37) #[] #[], 16⟩, ⟨.int .i64 11, .func (.func 38) #[] #[], 17⟩, ⟨.int .i64 16, .func (.func 39) #[] #[], 18⟩, ⟨.int .i64 14, .func (.func 40) #[] #[], 19⟩] 20 3 11 _ rfl
  go_enter Tryd.func9, Tryd.ntmps9
  go_wp2_with (first | (rw [hins]; rotate_left; (focus (simp; done)); (focus rfl)))
  have hcho : Cho ((w.alloc (.cells #[.int .i64 3, .int .i64 op2, .int .i64 ty, .int .i64 d, .int .i64 a, .int .i64 b, .int .i64 n, .int .i64 count, .int .i64 step] 23)).alloc (.cells #[.int .i64 3, .int .i64 op2, .int .i64 ty, .int .i64 d, .int .i64 a, .int .i64 b, .int .i64 n, .int .i64 count, .int .i64 step, .slice A hs.length hc, .int .i64 bs, .slice none 0 0] 63)) (w.heap.size + 1) w.heap.size ⟨3, op2, ty, d, a, b, n, count, step⟩ A hs hc bs (.slice none 0 0) [] :=
    ⟨Blk.newAt (by simp), World.ownsRow_nil _ _ _ _, hh.kept (S := fun _ => False) (((Keep.refl w _).alloc _).alloc _) (Nat.le_refl _) (fun _ _ h => h), by simp; omega, by omega, hm⟩
  refine (HDO.out _ _ (hcho.alloc _)).mono ?_
  rintro e w1 ⟨rfl, ov, hl1, hs1⟩
  have hglt := hl1.blk.lt
  have l11 := hl1.blk.cell 11
  simp at l11
  go_wp2_with fail
  go_ret
  refine ⟨ov, rfl, by simpa using hl1.own, ?_⟩
  have hb0 : Below w.heap.size w (((w.alloc (.cells #[.int .i64 3, .int .i64 op2, .int .i64 ty, .int .i64 d, .int .i64 a, .int .i64 b, .int .i64 n, .int .i64 count, .int .i64 step] 23)).alloc (.cells #[.int .i64 3, .int .i64 op2, .int .i64 ty, .int .i64 d, .int .i64 a, .int .i64 b, .int .i64 n, .int .i64 count, .int .i64 step, .slice A hs.length hc, .int .i64 bs, .slice none 0 0] 63)).alloc (.map #[⟨.int .i64 0, .func (.func 21) #[] #[], 0⟩, ⟨.int .i64 18, .func (.func 22) #[] #[], 1⟩, ⟨.int .i64 15, .func (.func 23) #[] #[], 2⟩, ⟨.int .i64 12, .func (.func 24) #[] #[], 3⟩, ⟨.int .i64 17, .func (.func 25) #[] #[], 4⟩, ⟨.int .i64 19, .func (.func 26) #[] #[], 5⟩, ⟨.int .i64 1, .func (.func 27) #[] #[], 6⟩, ⟨.int .i64 5, .func (.func 28) #[] #[], 7⟩, ⟨.int .i64 9, .func (.func 29) #[] #[], 8⟩, ⟨.int .i64 13, .func (.func 30) #[] #[], 9⟩, ⟨.int .i64 2, .func (.func 31) #[] #[], 10⟩, ⟨.int .i64 3, .func (.func 32) #[] #[], 11⟩, ⟨.int .i64 4, .func (.func 33) #[] #[], 12⟩, ⟨.int .i64 7, .func (.func 34) #[] #[], 13⟩, ⟨.int .i64 8, .func (.func 35) #[] #[], 14⟩, ⟨.int .i64 6, .func (.func 36) #[] #[], 15⟩, ⟨.int .i64 10, .func (.func 37) #[] #[], 16⟩, ⟨.int .i64 11, .func (.func 38) #[] #[], 17⟩, ⟨.int .i64 16, .func (.func 39) #[] #[], 18⟩, ⟨.int .i64 14, .func (.func 40) #[] #[], 19⟩] 20)) := (((Below.refl _ _).alloc (Nat.le_refl _) _).alloc (by simp) _).alloc (by simp; omega) _
  exact hb0.trans (hs1.keep.below (by simp; omega) (fun k hk hc => by
    rcases hc with hc | hc
    · omega
    · simp [Value.ownBlock] at hc))

set_option maxRecDepth 100000 in
set_option maxHeartbeats 6400000 in
theorem sel_4 (w : World) (i : I9) (A : Option Addr) (hs : List HV) (hc : Nat) (bs : Int) (hh : RepH w w.heap.size A hs) (hm : hs.length < 1000000000000000000) (hop : i.op = 4) :
    Calls Tryd.prog 9 #[.agg #[.int .i64 i.op, .int .i64 i.op2, .int .i64 i.ty, .int .i64 i.d, .int .i64 i.a, .int .i64 i.b, .int .i64 i.n, .int .i64 i.count, .int .i64 i.step], .slice A hs.length hc, .int .i64 bs] w (Selects w (readL hs bs i.a 6 ++ makeL hs bs i.d ⟨5, 0, readR hs i.a 6, 0, wrap32 (wrap64 (wrap64 (i.op2 * 4) + i.ty))⟩)) := by
  obtain ⟨op, op2, ty, d, a, b, n, count, step⟩ := i
  simp only at hop
  subst hop
  have hdo := fun W g hl => one_any W g w.heap.size ⟨4, op2, ty, d, a, b, n, count, step⟩ A hs hc bs (.slice none 0 0) [] hl (by simp)
  have HDO := Lib.hid hdo
  clear hdo
  have hmm := @run_makeMap Tryd.prog
  have hins := fun W k hk es c n v h => run_mapUpdate_at (P := Tryd.prog) 66 3 64 Tryd.underlying66 .i64 Tryd.underlying3 W k hk es c n v h
  have hlk := fun W k hk => run_lookup_at (P := Tryd.prog) 66 3 64 Tryd.underlying66 .i64 Tryd.underlying3 W k hk #[⟨.int .i64 0, .func (.func 21) #[] #[], 0⟩, ⟨.int .i64 18, .func (.func 22) #[] #[], 1⟩, ⟨.int .i64 15, .func (.func 23) #[] #[], 2⟩, ⟨.int .i64 12, .func (.func 24) #[] #[], 3⟩, ⟨.int .i64 17, .func (.func 25) #[] #[], 4⟩, ⟨.int .i64 19, .func (.func 26) #[] #[], 5⟩, ⟨.int .i64 1, .func (.func 27) #[] #[], 6⟩, ⟨.int .i64 5, .func (.func 28) #[] #[], 7⟩, ⟨.int .i64 9, .func (.func 29) #[] #[], 8⟩, ⟨.int .i64 13, .func (.func 30) #[] #[], 9⟩, ⟨.int .i64 2, .func (.func 31) #[] #[], 10⟩, ⟨.int .i64 3, .func (.func 32) #[] #[], 11⟩, ⟨.int .i64 4, .func (.func 33) #[] #[], 12⟩, ⟨.int .i64 7, .func (.func 34) #[] #[], 13⟩, ⟨.int .i64 8, .func (.func 35) #[] #[], 14⟩, ⟨.int .i64 6, .func (.func 36) #[] #[], 15⟩, ⟨.int .i64 10, .func (.func 37) #[] #[], 16⟩, ⟨.int .i64 11, .func (.func 38) #[] #[], 17⟩, ⟨.int .i64 16, .func (.func 39) #[] #[], 18⟩, ⟨.int .i64 14, .func (.func 40) #[] #[], 19⟩] 20 4 12 _ rfl
  go_enter Tryd.func9, Tryd.ntmps9
  go_wp2_with (first | (rw [hins]; rotate_left; (focus (simp; done)); (focus rfl)))
  have hcho : Cho ((w.alloc (.cells #[.int .i64 4, .int .i64 op2, .int .i64 ty, .int .i64 d, .int .i64 a, .int .i64 b, .int .i64 n, .int .i64 count, .int .i64 step] 23)).alloc (.cells #[.int .i64 4, .int .i64 op2, .int .i64 ty, .int .i64 d, .int .i64 a, .int .i64 b, .int .i64 n, .int .i64 count, .int .i64 step, .slice A hs.length hc, .int .i64 bs, .slice none 0 0] 63)) (w.heap.size + 1) w.heap.size ⟨4, op2, ty, d, a, b, n, count, step⟩ A hs hc bs (.slice none 0 0) [] :=
    ⟨Blk.newAt (by simp), World.ownsRow_nil _ _ _ _, hh.kept (S := fun _ => False) (((Keep.refl w _).alloc _).alloc _) (Nat.le_refl _) (fun _ _ h => h), by simp; omega, by omega, hm⟩
  refine (HDO.out _ _ (hcho.alloc _)).mono ?_
  rintro e w1 ⟨rfl, ov, hl1, hs1⟩
  have hglt := hl1.blk.lt
  have l11 := hl1.blk.cell 11
  simp at l11
  go_wp2_with fail
  go_ret
  refine ⟨ov, rfl, by simpa using hl1.own, ?_⟩
  have hb0 : Below w.heap.size w (((w.alloc (.cells #[.int .i64 4, .int .i64 op2, .int .i64 ty, .int .i64 d, .int .i64 a, .int .i64 b, .int .i64 n, .int .i64 count, .int .i64 step] 23)).alloc (.cells #[.int .i64 4, .int .i64 op2, .int .i64 ty, .int .i64 d, .int .i64 a, .int .i64 b, .int .i64 n, .int .i64 count, .int .i64 step, .slice A hs.length hc, .int .i64 bs, .slice none 0 0] 63)).alloc (.map #[⟨.int .i64 0, .func (.func 21) #[] #[], 0⟩, ⟨.int .i64 18, .func (.func 22) #[] #[], 1⟩, ⟨.int .i64 15, .func (.func 23) #[] #[], 2⟩, ⟨.int .i64 12, .func (.func 24) #[] #[], 3⟩, ⟨.int .i64 17, .func (.func 25) #[] #[], 4⟩, ⟨.int .i64 19, .func (.func 26) #[] #[], 5⟩, ⟨.int .i64 1, .func (.func 27) #[] #[], 6⟩, ⟨.int .i64 5, .func (.func 28) #[] #[], 7⟩, ⟨.int .i64 9, .func (.func 29) #[] #[], 8⟩, ⟨.int .i64 13, .func (.func 30) #[] #[], 9⟩, ⟨.int .i64 2, .func (.func 31) #[] #[], 10⟩, ⟨.int .i64 3, .func (.func 32) #[] #[], 11⟩, ⟨.int .i64 4, .func (.func 33) #[] #[], 12⟩, ⟨.int .i64 7, .func (.func 34) #[] #[], 13⟩, ⟨.int .i64 8, .func (.func 35) #[] #[], 14⟩, ⟨.int .i64 6, .func (.func 36) #[] #[], 15⟩, ⟨.int .i64 10, .func (.func 37) #[] #[], 16⟩, ⟨.int .i64 11, .func (.func 38) #[] #[], 17⟩, ⟨.int .i64 16, .func (.func 39) #[] #[], 18⟩, ⟨.int .i64 14, .func (.func 40) #[] #[], 19⟩] 20)) := (((Below.refl _ _).alloc (Nat.le_refl _) _).alloc (by simp) _).alloc (by simp; omega) _
  exact hb0.trans (hs1.keep.below (by simp; omega) (fun k hk hc => by
    rcases hc with hc | hc
    · omega
    · simp [Value.ownBlock] at hc))

set_option maxRecDepth 100000 in
set_option maxHeartbeats 6400000 in
theorem sel_5 (w : World) (i : I9) (A : Option Addr) (hs : List HV) (hc : Nat) (bs : Int) (hh : RepH w w.heap.size A hs) (hm : hs.length < 1000000000000000000) (hop : i.op = 5) :
    Calls Tryd.prog 9 #[.agg #[.int .i64 i.op, .int .i64 i.op2, .int .i64 i.ty, .int .i64 i.d, .int .i64 i.a, .int .i64 i.b, .int .i64 i.n, .int .i64 i.count, .int .i64 i.step], .slice A hs.length hc, .int .i64 bs] w (Selects w (makeL hs bs i.d ⟨6, 0, 0, 0, wrap32 i.n⟩)) := by
  obtain ⟨op, op2, ty, d, a, b, n, count, step⟩ := i
  simp only at hop
  subst hop
  have hdo := fun W g hl => load_any W g w.heap.size ⟨5, op2, ty, d, a, b, n, count, step⟩ A hs hc bs (.slice none 0 0) [] hl (by simp)
  have HDO := Lib.hid hdo
  clear hdo
  have hmm := @run_makeMap Tryd.prog
  have hins := fun W k hk es c n v h => run_mapUpdate_at (P := Tryd.prog) 66 3 64 Tryd.underlying66 .i64 Tryd.underlying3 W k hk es c n v h
  have hlk := fun W k hk => run_lookup_at (P := Tryd.prog) 66 3 64 Tryd.underlying66 .i64 Tryd.underlying3 W k hk #[⟨.int .i64 0, .func (.func 21) #[] #[], 0⟩, ⟨.int .i64 18, .func (.func 22) #[] #[], 1⟩, ⟨.int .i64 15, .func (.func 23) #[] #[], 2⟩, ⟨.int .i64 12, .func (.func 24) #[] #[], 3⟩, ⟨.int .i64 17, .func (.func 25) #[] #[], 4⟩, ⟨.int .i64 19, .func (.func 26) #[] #[], 5⟩, ⟨.int .i64 1, .func (.func 27) #[] #[], 6⟩, ⟨.int .i64 5, .func (.func 28) #[] #[], 7⟩, ⟨.int .i64 9, .func (.func 29) #[] #[], 8⟩, ⟨.int .i64 13, .func (.func 30) #[] #[], 9⟩, ⟨.int .i64 2, .func (.func 31) #[] #[], 10⟩, ⟨.int .i64 3, .func (.func 32) #[] #[], 11⟩, ⟨.int .i64 4, .func (.func 33) #[] #[], 12⟩, ⟨.int .i64 7, .func (.func 34) #[] #[], 13⟩, ⟨.int .i64 8, .func (.func 35) #[] #[], 14⟩, ⟨.int .i64 6, .func (.func 36) #[] #[], 15⟩, ⟨.int .i64 10, .func (.func 37) #[] #[], 16⟩, ⟨.int .i64 11, .func (.func 38) #[] #[], 17⟩, ⟨.int .i64 16, .func (.func 39) #[] #[], 18⟩, ⟨.int .i64 14, .func (.func 40) #[] #[], 19⟩] 20 5 7 _ rfl
  go_enter Tryd.func9, Tryd.ntmps9
  go_wp2_with (first | (rw [hins]; rotate_left; (focus (simp; done)); (focus rfl)))
  have hcho : Cho ((w.alloc (.cells #[.int .i64 5, .int .i64 op2, .int .i64 ty, .int .i64 d, .int .i64 a, .int .i64 b, .int .i64 n, .int .i64 count, .int .i64 step] 23)).alloc (.cells #[.int .i64 5, .int .i64 op2, .int .i64 ty, .int .i64 d, .int .i64 a, .int .i64 b, .int .i64 n, .int .i64 count, .int .i64 step, .slice A hs.length hc, .int .i64 bs, .slice none 0 0] 63)) (w.heap.size + 1) w.heap.size ⟨5, op2, ty, d, a, b, n, count, step⟩ A hs hc bs (.slice none 0 0) [] :=
    ⟨Blk.newAt (by simp), World.ownsRow_nil _ _ _ _, hh.kept (S := fun _ => False) (((Keep.refl w _).alloc _).alloc _) (Nat.le_refl _) (fun _ _ h => h), by simp; omega, by omega, hm⟩
  refine (HDO.out _ _ (hcho.alloc _)).mono ?_
  rintro e w1 ⟨rfl, ov, hl1, hs1⟩
  have hglt := hl1.blk.lt
  have l11 := hl1.blk.cell 11
  simp at l11
  go_wp2_with fail
  go_ret
  refine ⟨ov, rfl, by simpa using hl1.own, ?_⟩
  have hb0 : Below w.heap.size w (((w.alloc (.cells #[.int .i64 5, .int .i64 op2, .int .i64 ty, .int .i64 d, .int .i64 a, .int .i64 b, .int .i64 n, .int .i64 count, .int .i64 step] 23)).alloc (.cells #[.int .i64 5, .int .i64 op2, .int .i64 ty, .int .i64 d, .int .i64 a, .int .i64 b, .int .i64 n, .int .i64 count, .int .i64 step, .slice A hs.length hc, .int .i64 bs, .slice none 0 0] 63)).alloc (.map #[⟨.int .i64 0, .func (.func 21) #[] #[], 0⟩, ⟨.int .i64 18, .func (.func 22) #[] #[], 1⟩, ⟨.int .i64 15, .func (.func 23) #[] #[], 2⟩, ⟨.int .i64 12, .func (.func 24) #[] #[], 3⟩, ⟨.int .i64 17, .func (.func 25) #[] #[], 4⟩, ⟨.int .i64 19, .func (.func 26) #[] #[], 5⟩, ⟨.int .i64 1, .func (.func 27) #[] #[], 6⟩, ⟨.int .i64 5, .func (.func 28) #[] #[], 7⟩, ⟨.int .i64 9, .func (.func 29) #[] #[], 8⟩, ⟨.int .i64 13, .func (.func 30) #[] #[], 9⟩, ⟨.int .i64 2, .func (.func 31) #[] #[], 10⟩, ⟨.int .i64 3, .func (.func 32) #[] #[], 11⟩, ⟨.int .i64 4, .func (.func 33) #[] #[], 12⟩, ⟨.int .i64 7, .func (.func 34) #[] #[], 13⟩, ⟨.int .i64 8, .func (.func 35) #[] #[], 14⟩, ⟨.int .i64 6, .func (.func 36) #[] #[], 15⟩, ⟨.int .i64 10, .func (.func 37) #[] #[], 16⟩, ⟨.int .i64 11, .func (.func 38) #[] #[], 17⟩, ⟨.int .i64 16, .func (.func 39) #[] #[], 18⟩, ⟨.int .i64 14, .func (.func 40) #[] #[], 19⟩] 20)) := (((Below.refl _ _).alloc (Nat.le_refl _) _).alloc (by simp) _).alloc (by simp; omega) _
  exact hb0.trans (hs1.keep.below (by simp; omega) (fun k hk hc => by
    rcases hc with hc | hc
    · omega
    · simp [Value.ownBlock] at hc))

set_option maxRecDepth 100000 in
set_option maxHeartbeats 6400000 in
theorem sel_6 (w : World) (i : I9) (A : Option Addr) (hs : List HV) (hc : Nat) (bs : Int) (hh : RepH w w.heap.size A hs) (hm : hs.length < 1000000000000000000) (hop : i.op = 6) :
    Calls Tryd.prog 9 #[.agg #[.int .i64 i.op, .int .i64 i.op2, .int .i64 i.ty, .int .i64 i.d, .int .i64 i.a, .int .i64 i.b, .int .i64 i.n, .int .i64 i.count, .int .i64 i.step], .slice A hs.length hc, .int .i64 bs] w (Selects w (readL hs bs i.a 6 ++ [⟨7, readR hs i.a 6, 0, 0, wrap32 i.n⟩])) := by
  obtain ⟨op, op2, ty, d, a, b, n, count, step⟩ := i
  simp only at hop
  subst hop
  have hdo := fun W g hl => store_any W g w.heap.size ⟨6, op2, ty, d, a, b, n, count, step⟩ A hs hc bs (.slice none 0 0) [] hl (by simp)
  have HDO := Lib.hid hdo
  clear hdo
  have hmm := @run_makeMap Tryd.prog
  have hins := fun W k hk es c n v h => run_mapUpdate_at (P := Tryd.prog) 66 3 64 Tryd.underlying66 .i64 Tryd.underlying3 W k hk es c n v h
  have hlk := fun W k hk => run_lookup_at (P := Tryd.prog) 66 3 64 Tryd.underlying66 .i64 Tryd.underlying3 W k hk #[⟨.int .i64 0, .func (.func 21) #[] #[], 0⟩, ⟨.int .i64 18, .func (.func 22) #[] #[], 1⟩, ⟨.int .i64 15, .func (.func 23) #[] #[], 2⟩, ⟨.int .i64 12, .func (.func 24) #[] #[], 3⟩, ⟨.int .i64 17, .func (.func 25) #[] #[], 4⟩, ⟨.int .i64 19, .func (.func 26) #[] #[], 5⟩, ⟨.int .i64 1, .func (.func 27) #[] #[], 6⟩, ⟨.int .i64 5, .func (.func 28) #[] #[], 7⟩, ⟨.int .i64 9, .func (.func 29) #[] #[], 8⟩, ⟨.int .i64 13, .func (.func 30) #[] #[], 9⟩, ⟨.int .i64 2, .func (.func 31) #[] #[], 10⟩, ⟨.int .i64 3, .func (.func 32) #[] #[], 11⟩, ⟨.int .i64 4, .func (.func 33) #[] #[], 12⟩, ⟨.int .i64 7, .func (.func 34) #[] #[], 13⟩, ⟨.int .i64 8, .func (.func 35) #[] #[], 14⟩, ⟨.int .i64 6, .func (.func 36) #[] #[], 15⟩, ⟨.int .i64 10, .func (.func 37) #[] #[], 16⟩, ⟨.int .i64 11, .func (.func 38) #[] #[], 17⟩, ⟨.int .i64 16, .func (.func 39) #[] #[], 18⟩, ⟨.int .i64 14, .func (.func 40) #[] #[], 19⟩] 20 6 15 _ rfl
  go_enter Tryd.func9, Tryd.ntmps9
  go_wp2_with (first | (rw [hins]; rotate_left; (focus (simp; done)); (focus rfl)))
  have hcho : Cho ((w.alloc (.cells #[.int .i64 6, .int .i64 op2, .int .i64 ty, .int .i64 d, .int .i64 a, .int .i64 b, .int .i64 n, .int .i64 count, .int .i64 step] 23)).alloc (.cells #[.int .i64 6, .int .i64 op2, .int .i64 ty, .int .i64 d, .int .i64 a, .int .i64 b, .int .i64 n, .int .i64 count, .int .i64 step, .slice A hs.length hc, .int .i64 bs, .slice none 0 0] 63)) (w.heap.size + 1) w.heap.size ⟨6, op2, ty, d, a, b, n, count, step⟩ A hs hc bs (.slice none 0 0) [] :=
    ⟨Blk.newAt (by simp), World.ownsRow_nil _ _ _ _, hh.kept (S := fun _ => False) (((Keep.refl w _).alloc _).alloc _) (Nat.le_refl _) (fun _ _ h => h), by simp; omega, by omega, hm⟩
  refine (HDO.out _ _ (hcho.alloc _)).mono ?_
  rintro e w1 ⟨rfl, ov, hl1, hs1⟩
  have hglt := hl1.blk.lt
  have l11 := hl1.blk.cell 11
  simp at l11
  go_wp2_with fail
  go_ret
  refine ⟨ov, rfl, by simpa using hl1.own, ?_⟩
  have hb0 : Below w.heap.size w (((w.alloc (.cells #[.int .i64 6, .int .i64 op2, .int .i64 ty, .int .i64 d, .int .i64 a, .int .i64 b, .int .i64 n, .int .i64 count, .int .i64 step] 23)).alloc (.cells #[.int .i64 6, .int .i64 op2, .int .i64 ty, .int .i64 d, .int .i64 a, .int .i64 b, .int .i64 n, .int .i64 count, .int .i64 step, .slice A hs.length hc, .int .i64 bs, .slice none 0 0] 63)).alloc (.map #[⟨.int .i64 0, .func (.func 21) #[] #[], 0⟩, ⟨.int .i64 18, .func (.func 22) #[] #[], 1⟩, ⟨.int .i64 15, .func (.func 23) #[] #[], 2⟩, ⟨.int .i64 12, .func (.func 24) #[] #[], 3⟩, ⟨.int .i64 17, .func (.func 25) #[] #[], 4⟩, ⟨.int .i64 19, .func (.func 26) #[] #[], 5⟩, ⟨.int .i64 1, .func (.func 27) #[] #[], 6⟩, ⟨.int .i64 5, .func (.func 28) #[] #[], 7⟩, ⟨.int .i64 9, .func (.func 29) #[] #[], 8⟩, ⟨.int .i64 13, .func (.func 30) #[] #[], 9⟩, ⟨.int .i64 2, .func (.func 31) #[] #[], 10⟩, ⟨.int .i64 3, .func (.func 32) #[] #[], 11⟩, ⟨.int .i64 4, .func (.func 33) #[] #[], 12⟩, ⟨.int .i64 7, .func (.func 34) #[] #[], 13⟩, ⟨.int .i64 8, .func (.func 35) #[] #[], 14⟩, ⟨.int .i64 6, .func (.func 36) #[] #[], 15⟩, ⟨.int .i64 10, .func (.func 37) #[] #[], 16⟩, ⟨.int .i64 11, .func (.func 38) #[] #[], 17⟩, ⟨.int .i64 16, .func (.func 39) #[] #[], 18⟩, ⟨.int .i64 14, .func (.func 40) #[] #[], 19⟩] 20)) := (((Below.refl _ _).alloc (Nat.le_refl _) _).alloc (by simp) _).alloc (by simp; omega) _
  exact hb0.trans (hs1.keep.below (by simp; omega) (fun k hk hc => by
    rcases hc with hc | hc
    · omega
    · simp [Value.ownBlock] at hc))

set_option maxRecDepth 100000 in
set_option maxHeartbeats 6400000 in
theorem sel_7 (w : World) (i : I9) (A : Option Addr) (hs : List HV) (hc : Nat) (bs : Int) (hh : RepH w w.heap.size A hs) (hm : hs.length < 1000000000000000000) (hop : i.op = 7) :
    Calls Tryd.prog 9 #[.agg #[.int .i64 i.op, .int .i64 i.op2, .int .i64 i.ty, .int .i64 i.d, .int .i64 i.a, .int .i64 i.b, .int .i64 i.n, .int .i64 i.count, .int .i64 i.step], .slice A hs.length hc, .int .i64 bs] w (Selects w (readL hs bs i.a 6 ++ makeL hs bs i.d ⟨8, 0, readR hs i.a 6, 0, wrap32 (wrap64 (wrap64 (i.n * 128) + i.count))⟩)) := by
  obtain ⟨op, op2, ty, d, a, b, n, count, step⟩ := i
  simp only at hop
  subst hop
  have hdo := fun W g hl => loadX_any W g w.heap.size ⟨7, op2, ty, d, a, b, n, count, step⟩ A hs hc bs (.slice none 0 0) [] hl (by simp)
  have HDO := Lib.hid hdo
  clear hdo
  have hmm := @run_makeMap Tryd.prog
  have hins := fun W k hk es c n v h => run_mapUpdate_at (P := Tryd.prog) 66 3 64 Tryd.underlying66 .i64 Tryd.underlying3 W k hk es c n v h
  have hlk := fun W k hk => run_lookup_at (P := Tryd.prog) 66 3 64 Tryd.underlying66 .i64 Tryd.underlying3 W k hk #[⟨.int .i64 0, .func (.func 21) #[] #[], 0⟩, ⟨.int .i64 18, .func (.func 22) #[] #[], 1⟩, ⟨.int .i64 15, .func (.func 23) #[] #[], 2⟩, ⟨.int .i64 12, .func (.func 24) #[] #[], 3⟩, ⟨.int .i64 17, .func (.func 25) #[] #[], 4⟩, ⟨.int .i64 19, .func (.func 26) #[] #[], 5⟩, ⟨.int .i64 1, .func (.func 27) #[] #[], 6⟩, ⟨.int .i64 5, .func (.func 28) #[] #[], 7⟩, ⟨.int .i64 9, .func (.func 29) #[] #[], 8⟩, ⟨.int .i64 13, .func (.func 30) #[] #[], 9⟩, ⟨.int .i64 2, .func (.func 31) #[] #[], 10⟩, ⟨.int .i64 3, .func (.func 32) #[] #[], 11⟩, ⟨.int .i64 4, .func (.func 33) #[] #[], 12⟩, ⟨.int .i64 7, .func (.func 34) #[] #[], 13⟩, ⟨.int .i64 8, .func (.func 35) #[] #[], 14⟩, ⟨.int .i64 6, .func (.func 36) #[] #[], 15⟩, ⟨.int .i64 10, .func (.func 37) #[] #[], 16⟩, ⟨.int .i64 11, .func (.func 38) #[] #[], 17⟩, ⟨.int .i64 16, .func (.func 39) #[] #[], 18⟩, ⟨.int .i64 14, .func (.func 40) #[] #[], 19⟩] 20 7 13 _ rfl
  go_enter Tryd.func9, Tryd.ntmps9
  go_wp2_with (first | (rw [hins]; rotate_left; (focus (simp; done)); (focus rfl)))
  have hcho : Cho ((w.alloc (.cells #[.int .i64 7, .int .i64 op2, .int .i64 ty, .int .i64 d, .int .i64 a, .int .i64 b, .int .i64 n, .int .i64 count, .int .i64 step] 23)).alloc (.cells #[.int .i64 7, .int .i64 op2, .int .i64 ty, .int .i64 d, .int .i64 a, .int .i64 b, .int .i64 n, .int .i64 count, .int .i64 step, .slice A hs.length hc, .int .i64 bs, .slice none 0 0] 63)) (w.heap.size + 1) w.heap.size ⟨7, op2, ty, d, a, b, n, count, step⟩ A hs hc bs (.slice none 0 0) [] :=
    ⟨Blk.newAt (by simp), World.ownsRow_nil _ _ _ _, hh.kept (S := fun _ => False) (((Keep.refl w _).alloc _).alloc _) (Nat.le_refl _) (fun _ _ h => h), by simp; omega, by omega, hm⟩
  refine (HDO.out _ _ (hcho.alloc _)).mono ?_
  rintro e w1 ⟨rfl, ov, hl1, hs1⟩
  have hglt := hl1.blk.lt
  have l11 := hl1.blk.cell 11
  simp at l11
  go_wp2_with fail
  go_ret
  refine ⟨ov, rfl, by simpa using hl1.own, ?_⟩
  have hb0 : Below w.heap.size w (((w.alloc (.cells #[.int .i64 7, .int .i64 op2, .int .i64 ty, .int .i64 d, .int .i64 a, .int .i64 b, .int .i64 n, .int .i64 count, .int .i64 step] 23)).alloc (.cells #[.int .i64 7, .int .i64 op2, .int .i64 ty, .int .i64 d, .int .i64 a, .int .i64 b, .int .i64 n, .int .i64 count, .int .i64 step, .slice A hs.length hc, .int .i64 bs, .slice none 0 0] 63)).alloc (.map #[⟨.int .i64 0, .func (.func 21) #[] #[], 0⟩, ⟨.int .i64 18, .func (.func 22) #[] #[], 1⟩, ⟨.int .i64 15, .func (.func 23) #[] #[], 2⟩, ⟨.int .i64 12, .func (.func 24) #[] #[], 3⟩, ⟨.int .i64 17, .func (.func 25) #[] #[], 4⟩, ⟨.int .i64 19, .func (.func 26) #[] #[], 5⟩, ⟨.int .i64 1, .func (.func 27) #[] #[], 6⟩, ⟨.int .i64 5, .func (.func 28) #[] #[], 7⟩, ⟨.int .i64 9, .func (.func 29) #[] #[], 8⟩, ⟨.int .i64 13, .func (.func 30) #[] #[], 9⟩, ⟨.int .i64 2, .func (.func 31) #[] #[], 10⟩, ⟨.int .i64 3, .func (.func 32) #[] #[], 11⟩, ⟨.int .i64 4, .func (.func 33) #[] #[], 12⟩, ⟨.int .i64 7, .func (.func 34) #[] #[], 13⟩, ⟨.int .i64 8, .func (.func 35) #[] #[], 14⟩, ⟨.int .i64 6, .func (.func 36) #[] #[], 15⟩, ⟨.int .i64 10, .func (.func 37) #[] #[], 16⟩, ⟨.int .i64 11, .func (.func 38) #[] #[], 17⟩, ⟨.int .i64 16, .func (.func 39) #[] #[], 18⟩, ⟨.int .i64 14, .func (.func 40) #[] #[], 19⟩] 20)) := (((Below.refl _ _).alloc (Nat.le_refl _) _).alloc (by simp) _).alloc (by simp; omega) _
  exact hb0.trans (hs1.keep.below (by simp; omega) (fun k hk hc => by
    rcases hc with hc | hc
    · omega
    · simp [Value.ownBlock] at hc))

set_option maxRecDepth 100000 in
set_option maxHeartbeats 6400000 in
theorem sel_8 (w : World) (i : I9) (A : Option Addr) (hs : List HV) (hc : Nat) (bs : Int) (hh : RepH w w.heap.size A hs) (hm : hs.length < 1000000000000000000) (hop : i.op = 8) :
    Calls Tryd.prog 9 #[.agg #[.int .i64 i.op, .int .i64 i.op2, .int .i64 i.ty, .int .i64 i.d, .int .i64 i.a, .int .i64 i.b, .int .i64 i.n, .int .i64 i.count, .int .i64 i.step], .slice A hs.length hc, .int .i64 bs] w (Selects w (readL hs bs i.a 6 ++ (readL hs bs i.b 7 ++ [⟨9, readR hs i.b 7, readR hs i.a 6, 0, wrap32 (wrap64 (wrap64 (i.n * 128) + i.count))⟩]))) := by
  obtain ⟨op, op2, ty, d, a, b, n, count, step⟩ := i
  simp only at hop
  subst hop
  have hdo := fun W g hl => storeX_any W g w.heap.size ⟨8, op2, ty, d, a, b, n, count, step⟩ A hs hc bs (.slice none 0 0) [] hl (by simp)
  have HDO := Lib.hid hdo
  clear hdo
  have hmm := @run_makeMap Tryd.prog
  have hins := fun W k hk es c n v h => run_mapUpdate_at (P := Tryd.prog) 66 3 64 Tryd.underlying66 .i64 Tryd.underlying3 W k hk es c n v h
  have hlk := fun W k hk => run_lookup_at (P := Tryd.prog) 66 3 64 Tryd.underlying66 .i64 Tryd.underlying3 W k hk #[⟨.int .i64 0, .func (.func 21) #[] #[], 0⟩, ⟨.int .i64 18, .func (.func 22) #[] #[], 1⟩, ⟨.int .i64 15, .func (.func 23) #[] #[], 2⟩, ⟨.int .i64 12, .func (.func 24) #[] #[], 3⟩, ⟨.int .i64 17, .func (.func 25) #[] #[], 4⟩, ⟨.int .i64 19, .func (.func 26) #[] #[], 5⟩, ⟨.int .i64 1, .func (.func 27) #[] #[], 6⟩, ⟨.int .i64 5, .func (.func 28) #[] #[], 7⟩, ⟨.int .i64 9, .func (.func 29) #[] #[], 8⟩, ⟨.int .i64 13, .func (.func 30) #[] #[], 9⟩, ⟨.int .i64 2, .func (.func 31) #[] #[], 10⟩, ⟨.int .i64 3, .func (.func 32) #[] #[], 11⟩, ⟨.int .i64 4, .func (.func 33) #[] #[], 12⟩, ⟨.int .i64 7, .func (.func 34) #[] #[], 13⟩, ⟨.int .i64 8, .func (.func 35) #[] #[], 14⟩, ⟨.int .i64 6, .func (.func 36) #[] #[], 15⟩, ⟨.int .i64 10, .func (.func 37) #[] #[], 16⟩, ⟨.int .i64 11, .func (.func 38) #[] #[], 17⟩, ⟨.int .i64 16, .func (.func 39) #[] #[], 18⟩, ⟨.int .i64 14, .func (.func 40) #[] #[], 19⟩] 20 8 14 _ rfl
  go_enter Tryd.func9, Tryd.ntmps9
  go_wp2_with (first | (rw [hins]; rotate_left; (focus (simp; done)); (focus rfl)))
  have hcho : Cho ((w.alloc (.cells #[.int .i64 8, .int .i64 op2, .int .i64 ty, .int .i64 d, .int .i64 a, .int .i64 b, .int .i64 n, .int .i64 count, .int .i64 step] 23)).alloc (.cells #[.int .i64 8, .int .i64 op2, .int .i64 ty, .int .i64 d, .int .i64 a, .int .i64 b, .int .i64 n, .int .i64 count, .int .i64 step, .slice A hs.length hc, .int .i64 bs, .slice none 0 0] 63)) (w.heap.size + 1) w.heap.size ⟨8, op2, ty, d, a, b, n, count, step⟩ A hs hc bs (.slice none 0 0) [] :=
    ⟨Blk.newAt (by simp), World.ownsRow_nil _ _ _ _, hh.kept (S := fun _ => False) (((Keep.refl w _).alloc _).alloc _) (Nat.le_refl _) (fun _ _ h => h), by simp; omega, by omega, hm⟩
  refine (HDO.out _ _ (hcho.alloc _)).mono ?_
  rintro e w1 ⟨rfl, ov, hl1, hs1⟩
  have hglt := hl1.blk.lt
  have l11 := hl1.blk.cell 11
  simp at l11
  go_wp2_with fail
  go_ret
  refine ⟨ov, rfl, by simpa using hl1.own, ?_⟩
  have hb0 : Below w.heap.size w (((w.alloc (.cells #[.int .i64 8, .int .i64 op2, .int .i64 ty, .int .i64 d, .int .i64 a, .int .i64 b, .int .i64 n, .int .i64 count, .int .i64 step] 23)).alloc (.cells #[.int .i64 8, .int .i64 op2, .int .i64 ty, .int .i64 d, .int .i64 a, .int .i64 b, .int .i64 n, .int .i64 count, .int .i64 step, .slice A hs.length hc, .int .i64 bs, .slice none 0 0] 63)).alloc (.map #[⟨.int .i64 0, .func (.func 21) #[] #[], 0⟩, ⟨.int .i64 18, .func (.func 22) #[] #[], 1⟩, ⟨.int .i64 15, .func (.func 23) #[] #[], 2⟩, ⟨.int .i64 12, .func (.func 24) #[] #[], 3⟩, ⟨.int .i64 17, .func (.func 25) #[] #[], 4⟩, ⟨.int .i64 19, .func (.func 26) #[] #[], 5⟩, ⟨.int .i64 1, .func (.func 27) #[] #[], 6⟩, ⟨.int .i64 5, .func (.func 28) #[] #[], 7⟩, ⟨.int .i64 9, .func (.func 29) #[] #[], 8⟩, ⟨.int .i64 13, .func (.func 30) #[] #[], 9⟩, ⟨.int .i64 2, .func (.func 31) #[] #[], 10⟩, ⟨.int .i64 3, .func (.func 32) #[] #[], 11⟩, ⟨.int .i64 4, .func (.func 33) #[] #[], 12⟩, ⟨.int .i64 7, .func (.func 34) #[] #[], 13⟩, ⟨.int .i64 8, .func (.func 35) #[] #[], 14⟩, ⟨.int .i64 6, .func (.func 36) #[] #[], 15⟩, ⟨.int .i64 10, .func (.func 37) #[] #[], 16⟩, ⟨.int .i64 11, .func (.func 38) #[] #[], 17⟩, ⟨.int .i64 16, .func (.func 39) #[] #[], 18⟩, ⟨.int .i64 14, .func (.func 40) #[] #[], 19⟩] 20)) := (((Below.refl _ _).alloc (Nat.le_refl _) _).alloc (by simp) _).alloc (by simp; omega) _
  exact hb0.trans (hs1.keep.below (by simp; omega) (fun k hk hc => by
    rcases hc with hc | hc
    · omega
    · simp [Value.ownBlock] at hc))

set_option maxRecDepth 100000 in
set_option maxHeartbeats 6400000 in
theorem sel_9 (w : World) (i : I9) (A : Option Addr) (hs : List HV) (hc : Nat) (bs : Int) (hh : RepH w w.heap.size A hs) (hm : hs.length < 1000000000000000000) (hop : i.op = 9) :
    Calls Tryd.prog 9 #[.agg #[.int .i64 i.op, .int .i64 i.op2, .int .i64 i.ty, .int .i64 i.d, .int .i64 i.a, .int .i64 i.b, .int .i64 i.n, .int .i64 i.count, .int .i64 i.step], .slice A hs.length hc, .int .i64 bs] w (Selects w (makeL hs bs i.d ⟨10, 0, 0, 0, wrap32 i.n⟩)) := by
  obtain ⟨op, op2, ty, d, a, b, n, count, step⟩ := i
  simp only at hop
  subst hop
  have hdo := fun W g hl => in_any W g w.heap.size ⟨9, op2, ty, d, a, b, n, count, step⟩ A hs hc bs (.slice none 0 0) [] hl (by simp)
  have HDO := Lib.hid hdo
  clear hdo
  have hmm := @run_makeMap Tryd.prog
  have hins := fun W k hk es c n v h => run_mapUpdate_at (P := Tryd.prog) 66 3 64 Tryd.underlying66 .i64 Tryd.underlying3 W k hk es c n v h
  have hlk := fun W k hk => run_lookup_at (P := Tryd.prog) 66 3 64 Tryd.underlying66 .i64 Tryd.underlying3 W k hk #[⟨.int .i64 0, .func (.func 21) #[] #[], 0⟩, ⟨.int .i64 18, .func (.func 22) #[] #[], 1⟩, ⟨.int .i64 15, .func (.func 23) #[] #[], 2⟩, ⟨.int .i64 12, .func (.func 24) #[] #[], 3⟩, ⟨.int .i64 17, .func (.func 25) #[] #[], 4⟩, ⟨.int .i64 19, .func (.func 26) #[] #[], 5⟩, ⟨.int .i64 1, .func (.func 27) #[] #[], 6⟩, ⟨.int .i64 5, .func (.func 28) #[] #[], 7⟩, ⟨.int .i64 9, .func (.func 29) #[] #[], 8⟩, ⟨.int .i64 13, .func (.func 30) #[] #[], 9⟩, ⟨.int .i64 2, .func (.func 31) #[] #[], 10⟩, ⟨.int .i64 3, .func (.func 32) #[] #[], 11⟩, ⟨.int .i64 4, .func (.func 33) #[] #[], 12⟩, ⟨.int .i64 7, .func (.func 34) #[] #[], 13⟩, ⟨.int .i64 8, .func (.func 35) #[] #[], 14⟩, ⟨.int .i64 6, .func (.func 36) #[] #[], 15⟩, ⟨.int .i64 10, .func (.func 37) #[] #[], 16⟩, ⟨.int .i64 11, .func (.func 38) #[] #[], 17⟩, ⟨.int .i64 16, .func (.func 39) #[] #[], 18⟩, ⟨.int .i64 14, .func (.func 40) #[] #[], 19⟩] 20 9 8 _ rfl
  go_enter Tryd.func9, Tryd.ntmps9
  go_wp2_with (first | (rw [hins]; rotate_left; (focus (simp; done)); (focus rfl)))
  have hcho : Cho ((w.alloc (.cells #[.int .i64 9, .int .i64 op2, .int .i64 ty, .int .i64 d, .int .i64 a, .int .i64 b, .int .i64 n, .int .i64 count, .int .i64 step] 23)).alloc (.cells #[.int .i64 9, .int .i64 op2, .int .i64 ty, .int .i64 d, .int .i64 a, .int .i64 b, .int .i64 n, .int .i64 count, .int .i64 step, .slice A hs.length hc, .int .i64 bs, .slice none 0 0] 63)) (w.heap.size + 1) w.heap.size ⟨9, op2, ty, d, a, b, n, count, step⟩ A hs hc bs (.slice none 0 0) [] :=
    ⟨Blk.newAt (by simp), World.ownsRow_nil _ _ _ _, hh.kept (S := fun _ => False) (((Keep.refl w _).alloc _).alloc _) (Nat.le_refl _) (fun _ _ h => h), by simp; omega, by omega, hm⟩
  refine (HDO.out _ _ (hcho.alloc _)).mono ?_
  rintro e w1 ⟨rfl, ov, hl1, hs1⟩
  have hglt := hl1.blk.lt
  have l11 := hl1.blk.cell 11
  simp at l11
  go_wp2_with fail
  go_ret
  refine ⟨ov, rfl, by simpa using hl1.own, ?_⟩
  have hb0 : Below w.heap.size w (((w.alloc (.cells #[.int .i64 9, .int .i64 op2, .int .i64 ty, .int .i64 d, .int .i64 a, .int .i64 b, .int .i64 n, .int .i64 count, .int .i64 step] 23)).alloc (.cells #[.int .i64 9, .int .i64 op2, .int .i64 ty, .int .i64 d, .int .i64 a, .int .i64 b, .int .i64 n, .int .i64 count, .int .i64 step, .slice A hs.length hc, .int .i64 bs, .slice none 0 0] 63)).alloc (.map #[⟨.int .i64 0, .func (.func 21) #[] #[], 0⟩, ⟨.int .i64 18, .func (.func 22) #[] #[], 1⟩, ⟨.int .i64 15, .func (.func 23) #[] #[], 2⟩, ⟨.int .i64 12, .func (.func 24) #[] #[], 3⟩, ⟨.int .i64 17, .func (.func 25) #[] #[], 4⟩, ⟨.int .i64 19, .func (.func 26) #[] #[], 5⟩, ⟨.int .i64 1, .func (.func 27) #[] #[], 6⟩, ⟨.int .i64 5, .func (.func 28) #[] #[], 7⟩, ⟨.int .i64 9, .func (.func 29) #[] #[], 8⟩, ⟨.int .i64 13, .func (.func 30) #[] #[], 9⟩, ⟨.int .i64 2, .func (.func 31) #[] #[], 10⟩, ⟨.int .i64 3, .func (.func 32) #[] #[], 11⟩, ⟨.int .i64 4, .func (.func 33) #[] #[], 12⟩, ⟨.int .i64 7, .func (.func 34) #[] #[], 13⟩, ⟨.int .i64 8, .func (.func 35) #[] #[], 14⟩, ⟨.int .i64 6, .func (.func 36) #[] #[], 15⟩, ⟨.int .i64 10, .func (.func 37) #[] #[], 16⟩, ⟨.int .i64 11, .func (.func 38) #[] #[], 17⟩, ⟨.int .i64 16, .func (.func 39) #[] #[], 18⟩, ⟨.int .i64 14, .func (.func 40) #[] #[], 19⟩] 20)) := (((Below.refl _ _).alloc (Nat.le_refl _) _).alloc (by simp) _).alloc (by simp; omega) _
  exact hb0.trans (hs1.keep.below (by simp; omega) (fun k hk hc => by
    rcases hc with hc | hc
    · omega
    · simp [Value.ownBlock] at hc))

set_option maxRecDepth 100000 in
set_option maxHeartbeats 6400000 in
theorem sel_10 (w : World) (i : I9) (A : Option Addr) (hs : List HV) (hc : Nat) (bs : Int) (hh : RepH w w.heap.size A hs) (hm : hs.length < 1000000000000000000) (hop : i.op = 10) :
    Calls Tryd.prog 9 #[.agg #[.int .i64 i.op, .int .i64 i.op2, .int .i64 i.ty, .int .i64 i.d, .int .i64 i.a, .int .i64 i.b, .int .i64 i.n, .int .i64 i.count, .int .i64 i.step], .slice A hs.length hc, .int .i64 bs] w (Selects w (readL hs bs i.a 6 ++ [⟨11, readR hs i.a 6, 0, 0, wrap32 i.n⟩])) := by
  obtain ⟨op, op2, ty, d, a, b, n, count, step⟩ := i
  simp only at hop
  subst hop
  have hdo := fun W g hl => out1_any W g w.heap.size ⟨10, op2, ty, d, a, b, n, count, step⟩ A hs hc bs (.slice none 0 0) [] hl (by simp)
  have HDO := Lib.hid hdo
  clear hdo
  have hmm := @run_makeMap Tryd.prog
  have hins := fun W k hk es c n v h => run_mapUpdate_at (P := Tryd.prog) 66 3 64 Tryd.underlying66 .i64 Tryd.underlying3 W k hk es c n v h
  have hlk := fun W k hk => run_lookup_at (P := Tryd.prog) 66 3 64 Tryd.underlying66 .i64 Tryd.underlying3 W k hk #[⟨.int .i64 0, .func (.func 21) #[] #[], 0⟩, ⟨.int .i64 18, .func (.func 22) #[] #[], 1⟩, ⟨.int .i64 15, .func (.func 23) #[] #[], 2⟩, ⟨.int .i64 12, .func (.func 24) #[] #[], 3⟩, ⟨.int .i64 17, .func (.func 25) #[] #[], 4⟩, ⟨.int .i64 19, .func (.func 26) #[] #[], 5⟩, ⟨.int .i64 1, .func (.func 27) #[] #[], 6⟩, ⟨.int .i64 5, .func (.func 28) #[] #[], 7⟩, ⟨.int .i64 9, .func (.func 29) #[] #[], 8⟩, ⟨.int .i64 13, .func (.func 30) #[] #[], 9⟩, ⟨.int .i64 2, .func (.func 31) #[] #[], 10⟩, ⟨.int .i64 3, .func (.func 32) #[] #[], 11⟩, ⟨.int .i64 4, .func (.func 33) #[] #[], 12⟩, ⟨.int .i64 7, .func (.func 34) #[] #[], 13⟩, ⟨.int .i64 8, .func (.func 35) #[] #[], 14⟩, ⟨.int .i64 6, .func (.func 36) #[] #[], 15⟩, ⟨.int .i64 10, .func (.func 37) #[] #[], 16⟩, ⟨.int .i64 11, .func (.func 38) #[] #[], 17⟩, ⟨.int .i64 16, .func (.func 39) #[] #[], 18⟩, ⟨.int .i64 14, .func (.func 40) #[] #[], 19⟩] 20 10 16 _ rfl
  go_enter Tryd.func9, Tryd.ntmps9
  go_wp2_with (first | (rw [hins]; rotate_left; (focus (simp; done)); (focus rfl)))
  have hcho : Cho ((w.alloc (.cells #[.int .i64 10, .int .i64 op2, .int .i64 ty, .int .i64 d, .int .i64 a, .int .i64 b, .int .i64 n, .int .i64 count, .int .i64 step] 23)).alloc (.cells #[.int .i64 10, .int .i64 op2, .int .i64 ty, .int .i64 d, .int .i64 a, .int .i64 b, .int .i64 n, .int .i64 count, .int .i64 step, .slice A hs.length hc, .int .i64 bs, .slice none 0 0] 63)) (w.heap.size + 1) w.heap.size ⟨10, op2, ty, d, a, b, n, count, step⟩ A hs hc bs (.slice none 0 0) [] :=
    ⟨Blk.newAt (by simp), World.ownsRow_nil _ _ _ _, hh.kept (S := fun _ => False) (((Keep.refl w _).alloc _).alloc _) (Nat.le_refl _) (fun _ _ h => h), by simp; omega, by omega, hm⟩
  refine (HDO.out _ _ (hcho.alloc _)).mono ?_
  rintro e w1 ⟨rfl, ov, hl1, hs1⟩
  have hglt := hl1.blk.lt
  have l11 := hl1.blk.cell 11
  simp at l11
  go_wp2_with fail
  go_ret
  refine ⟨ov, rfl, by simpa using hl1.own, ?_⟩
  have hb0 : Below w.heap.size w (((w.alloc (.cells #[.int .i64 10, .int .i64 op2, .int .i64 ty, .int .i64 d, .int .i64 a, .int .i64 b, .int .i64 n, .int .i64 count, .int .i64 step] 23)).alloc (.cells #[.int .i64 10, .int .i64 op2, .int .i64 ty, .int .i64 d, .int .i64 a, .int .i64 b, .int .i64 n, .int .i64 count, .int .i64 step, .slice A hs.length hc, .int .i64 bs, .slice none 0 0] 63)).alloc (.map #[⟨.int .i64 0, .func (.func 21) #[] #[], 0⟩, ⟨.int .i64 18, .func (.func 22) #[] #[], 1⟩, ⟨.int .i64 15, .func (.func 23) #[] #[], 2⟩, ⟨.int .i64 12, .func (.func 24) #[] #[], 3⟩, ⟨.int .i64 17, .func (.func 25) #[] #[], 4⟩, ⟨.int .i64 19, .func (.func 26) #[] #[], 5⟩, ⟨.int .i64 1, .func (.func 27) #[] #[], 6⟩, ⟨.int .i64 5, .func (.func 28) #[] #[], 7⟩, ⟨.int .i64 9, .func (.func 29) #[] #[], 8⟩, ⟨.int .i64 13, .func (.func 30) #[] #[], 9⟩, ⟨.int .i64 2, .func (.func 31) #[] #[], 10⟩, ⟨.int .i64 3, .func (.func 32) #[] #[], 11⟩, ⟨.int .i64 4, .func (.func 33) #[] #[], 12⟩, ⟨.int .i64 7, .func (.func 34) #[] #[], 13⟩, ⟨.int .i64 8, .func (.func 35) #[] #[], 14⟩, ⟨.int .i64 6, .func (.func 36) #[] #[], 15⟩, ⟨.int .i64 10, .func (.func 37) #[] #[], 16⟩, ⟨.int .i64 11, .func (.func 38) #[] #[], 17⟩, ⟨.int .i64 16, .func (.func 39) #[] #[], 18⟩, ⟨.int .i64 14, .func (.func 40) #[] #[], 19⟩] 20)) := (((Below.refl _ _).alloc (Nat.le_refl _) _).alloc (by simp) _).alloc (by simp; omega) _
  exact hb0.trans (hs1.keep.below (by simp; omega) (fun k hk hc => by
    rcases hc with hc | hc
    · omega
    · simp [Value.ownBlock] at hc))

set_option maxRecDepth 100000 in
set_option maxHeartbeats 6400000 in
theorem sel_11 (w : World) (i : I9) (A : Option Addr) (hs : List HV) (hc : Nat) (bs : Int) (hh : RepH w w.heap.size A hs) (hm : hs.length < 1000000000000000000) (hop : i.op = 11) :
    Calls Tryd.prog 9 #[.agg #[.int .i64 i.op, .int .i64 i.op2, .int .i64 i.ty, .int .i64 i.d, .int .i64 i.a, .int .i64 i.b, .int .i64 i.n, .int .i64 i.count, .int .i64 i.step], .slice A hs.length hc, .int .i64 bs] w (Selects w (readL hs bs i.a 6 ++ [⟨14, readR hs i.a 6, 0, 0, wrap32 i.n⟩])) := by
  obtain ⟨op, op2, ty, d, a, b, n, count, step⟩ := i
  simp only at hop
  subst hop
  have hdo := fun W g hl => arg_any W g w.heap.size ⟨11, op2, ty, d, a, b, n, count, step⟩ A hs hc bs (.slice none 0 0) [] hl (by simp)
  have HDO := Lib.hid hdo
  clear hdo
  have hmm := @run_makeMap Tryd.prog
  have hins := fun W k hk es c n v h => run_mapUpdate_at (P := Tryd.prog) 66 3 64 Tryd.underlying66 .i64 Tryd.underlying3 W k hk es c n v h
  have hlk := fun W k hk => run_lookup_at (P := Tryd.prog) 66 3 64 Tryd.underlying66 .i64 Tryd.underlying3 W k hk #[⟨.int .i64 0, .func (.func 21) #[] #[], 0⟩, ⟨.int .i64 18, .func (.func 22) #[] #[], 1⟩, ⟨.int .i64 15, .func (.func 23) #[] #[], 2⟩, ⟨.int .i64 12, .func (.func 24) #[] #[], 3⟩, ⟨.int .i64 17, .func (.func 25) #[] #[], 4⟩, ⟨.int .i64 19, .func (.func 26) #[] #[], 5⟩, ⟨.int .i64 1, .func (.func 27) #[] #[], 6⟩, ⟨.int .i64 5, .func (.func 28) #[] #[], 7⟩, ⟨.int .i64 9, .func (.func 29) #[] #[], 8⟩, ⟨.int .i64 13, .func (.func 30) #[] #[], 9⟩, ⟨.int .i64 2, .func (.func 31) #[] #[], 10⟩, ⟨.int .i64 3, .func (.func 32) #[] #[], 11⟩, ⟨.int .i64 4, .func (.func 33) #[] #[], 12⟩, ⟨.int .i64 7, .func (.func 34) #[] #[], 13⟩, ⟨.int .i64 8, .func (.func 35) #[] #[], 14⟩, ⟨.int .i64 6, .func (.func 36) #[] #[], 15⟩, ⟨.int .i64 10, .func (.func 37) #[] #[], 16⟩, ⟨.int .i64 11, .func (.func 38) #[] #[], 17⟩, ⟨.int .i64 16, .func (.func 39) #[] #[], 18⟩, ⟨.int .i64 14, .func (.func 40) #[] #[], 19⟩] 20 11 17 _ rfl
  go_enter Tryd.func9, Tryd.ntmps9
  go_wp2_with (first | (rw [hins]; rotate_left; (focus (simp; done)); (focus rfl)))
  have hcho : Cho ((w.alloc (.cells #[.int .i64 11, .int .i64 op2, .int .i64 ty, .int .i64 d, .int .i64 a, .int .i64 b, .int .i64 n, .int .i64 count, .int .i64 step] 23)).alloc (.cells #[.int .i64 11, .int .i64 op2, .int .i64 ty, .int .i64 d, .int .i64 a, .int .i64 b, .int .i64 n, .int .i64 count, .int .i64 step, .slice A hs.length hc, .int .i64 bs, .slice none 0 0] 63)) (w.heap.size + 1) w.heap.size ⟨11, op2, ty, d, a, b, n, count, step⟩ A hs hc bs (.slice none 0 0) [] :=
    ⟨Blk.newAt (by simp), World.ownsRow_nil _ _ _ _, hh.kept (S := fun _ => False) (((Keep.refl w _).alloc _).alloc _) (Nat.le_refl _) (fun _ _ h => h), by simp; omega, by omega, hm⟩
  refine (HDO.out _ _ (hcho.alloc _)).mono ?_
  rintro e w1 ⟨rfl, ov, hl1, hs1⟩
  have hglt := hl1.blk.lt
  have l11 := hl1.blk.cell 11
  simp at l11
  go_wp2_with fail
  go_ret
  refine ⟨ov, rfl, by simpa using hl1.own, ?_⟩
  have hb0 : Below w.heap.size w (((w.alloc (.cells #[.int .i64 11, .int .i64 op2, .int .i64 ty, .int .i64 d, .int .i64 a, .int .i64 b, .int .i64 n, .int .i64 count, .int .i64 step] 23)).alloc (.cells #[.int .i64 11, .int .i64 op2, .int .i64 ty, .int .i64 d, .int .i64 a, .int .i64 b, .int .i64 n, .int .i64 count, .int .i64 step, .slice A hs.length hc, .int .i64 bs, .slice none 0 0] 63)).alloc (.map #[⟨.int .i64 0, .func (.func 21) #[] #[], 0⟩, ⟨.int .i64 18, .func (.func 22) #[] #[], 1⟩, ⟨.int .i64 15, .func (.func 23) #[] #[], 2⟩, ⟨.int .i64 12, .func (.func 24) #[] #[], 3⟩, ⟨.int .i64 17, .func (.func 25) #[] #[], 4⟩, ⟨.int .i64 19, .func (.func 26) #[] #[], 5⟩, ⟨.int .i64 1, .func (.func 27) #[] #[], 6⟩, ⟨.int .i64 5, .func (.func 28) #[] #[], 7⟩, ⟨.int .i64 9, .func (.func 29) #[] #[], 8⟩, ⟨.int .i64 13, .func (.func 30) #[] #[], 9⟩, ⟨.int .i64 2, .func (.func 31) #[] #[], 10⟩, ⟨.int .i64 3, .func (.func 32) #[] #[], 11⟩, ⟨.int .i64 4, .func (.func 33) #[] #[], 12⟩, ⟨.int .i64 7, .func (.func 34) #[] #[], 13⟩, ⟨.int .i64 8, .func (.func 35) #[] #[], 14⟩, ⟨.int .i64 6, .func (.func 36) #[] #[], 15⟩, ⟨.int .i64 10, .func (.func 37) #[] #[], 16⟩, ⟨.int .i64 11, .func (.func 38) #[] #[], 17⟩, ⟨.int .i64 16, .func (.func 39) #[] #[], 18⟩, ⟨.int .i64 14, .func (.func 40) #[] #[], 19⟩] 20)) := (((Below.refl _ _).alloc (Nat.le_refl _) _).alloc (by simp) _).alloc (by simp; omega) _
  exact hb0.trans (hs1.keep.below (by simp; omega) (fun k hk hc => by
    rcases hc with hc | hc
    · omega
    · simp [Value.ownBlock] at hc))

set_option maxRecDepth 100000 in
set_option maxHeartbeats 6400000 in
theorem sel_12 (w : World) (i : I9) (A : Option Addr) (hs : List HV) (hc : Nat) (bs : Int) (hh : RepH w w.heap.size A hs) (hm : hs.length < 1000000000000000000) (hop : i.op = 12) :
    Calls Tryd.prog 9 #[.agg #[.int .i64 i.op, .int .i64 i.op2, .int .i64 i.ty, .int .i64 i.d, .int .i64 i.a, .int .i64 i.b, .int .i64 i.n, .int .i64 i.count, .int .i64 i.step], .slice A hs.length hc, .int .i64 bs] w (Selects w ([⟨15, 0, 0, 0, wrap32 i.n⟩])) := by
  obtain ⟨op, op2, ty, d, a, b, n, count, step⟩ := i
  simp only at hop
  subst hop
  have hdo := fun W g hl => call_any W g w.heap.size ⟨12, op2, ty, d, a, b, n, count, step⟩ A hs hc bs (.slice none 0 0) [] hl (by simp)
  have HDO := Lib.hid hdo
  clear hdo
  have hmm := @run_makeMap Tryd.prog
  have hins := fun W k hk es c n v h => run_mapUpdate_at (P := Tryd.prog) 66 3 64 Tryd.underlying66 .i64 Tryd.underlying3 W k hk es c n v h
  have hlk := fun W k hk => run_lookup_at (P := Tryd.prog) 66 3 64 Tryd.underlying66 .i64 Tryd.underlying3 W k hk #[⟨.int .i64 0, .func (.func 21) #[] #[], 0⟩, ⟨.int .i64 18, .func (.func 22) #[] #[], 1⟩, ⟨.int .i64 15, .func (.func 23) #[] #[], 2⟩, ⟨.int .i64 12, .func (.func 24) #[] #[], 3⟩, ⟨.int .i64 17, .func (.func 25) #[] #[], 4⟩, ⟨.int .i64 19, .func (.func 26) #[] #[], 5⟩, ⟨.int .i64 1, .func (.func 27) #[] #[], 6⟩, ⟨.int .i64 5, .func (.func 28) #[] #[], 7⟩, ⟨.int .i64 9, .func (.func 29) #[] #[], 8⟩, ⟨.int .i64 13, .func (.func 30) #[] #[], 9⟩, ⟨.int .i64 2, .func (.func 31) #[] #[], 10⟩, ⟨.int .i64 3, .func (.func 32) #[] #[], 11⟩, ⟨.int .i64 4, .func (.func 33) #[] #[], 12⟩, ⟨.int .i64 7, .func (.func 34) #[] #[], 13⟩, ⟨.int .i64 8, .func (.func 35) #[] #[], 14⟩, ⟨.int .i64 6, .func (.func 36) #[] #[], 15⟩, ⟨.int .i64 10, .func (.func 37) #[] #[], 16⟩, ⟨.int .i64 11, .func (.func 38) #[] #[], 17⟩, ⟨.int .i64 16, .func (.func 39) #[] #[], 18⟩, ⟨.int .i64 14, .func (.func 40) #[] #[], 19⟩] 20 12 3 _ rfl
  go_enter Tryd.func9, Tryd.ntmps9
  go_wp2_with (first | (rw [hins]; rotate_left; (focus (simp; done)); (focus rfl)))
  have hcho : Cho ((w.alloc (.cells #[.int .i64 12, .int .i64 op2, .int .i64 ty, .int .i64 d, .int .i64 a, .int .i64 b, .int .i64 n, .int .i64 count, .int .i64 step] 23)).alloc (.cells #[.int .i64 12, .int .i64 op2, .int .i64 ty, .int .i64 d, .int .i64 a, .int .i64 b, .int .i64 n, .int .i64 count, .int .i64 step, .slice A hs.length hc, .int .i64 bs, .slice none 0 0] 63)) (w.heap.size + 1) w.heap.size ⟨12, op2, ty, d, a, b, n, count, step⟩ A hs hc bs (.slice none 0 0) [] :=
    ⟨Blk.newAt (by simp), World.ownsRow_nil _ _ _ _, hh.kept (S := fun _ => False) (((Keep.refl w _).alloc _).alloc _) (Nat.le_refl _) (fun _ _ h => h), by simp; omega, by omega, hm⟩
  refine (HDO.out _ _ (hcho.alloc _)).mono ?_
  rintro e w1 ⟨rfl, ov, hl1, hs1⟩
  have hglt := hl1.blk.lt
  have l11 := hl1.blk.cell 11
  simp at l11
  go_wp2_with fail
  go_ret
  refine ⟨ov, rfl, by simpa using hl1.own, ?_⟩
  have hb0 : Below w.heap.size w (((w.alloc (.cells #[.int .i64 12, .int .i64 op2, .int .i64 ty, .int .i64 d, .int .i64 a, .int .i64 b, .int .i64 n, .int .i64 count, .int .i64 step] 23)).alloc (.cells #[.int .i64 12, .int .i64 op2, .int .i64 ty, .int .i64 d, .int .i64 a, .int .i64 b, .int .i64 n, .int .i64 count, .int .i64 step, .slice A hs.length hc, .int .i64 bs, .slice none 0 0] 63)).alloc (.map #[⟨.int .i64 0, .func (.func 21) #[] #[], 0⟩, ⟨.int .i64 18, .func (.func 22) #[] #[], 1⟩, ⟨.int .i64 15, .func (.func 23) #[] #[], 2⟩, ⟨.int .i64 12, .func (.func 24) #[] #[], 3⟩, ⟨.int .i64 17, .func (.func 25) #[] #[], 4⟩, ⟨.int .i64 19, .func (.func 26) #[] #[], 5⟩, ⟨.int .i64 1, .func (.func 27) #[] #[], 6⟩, ⟨.int .i64 5, .func (.func 28) #[] #[], 7⟩, ⟨.int .i64 9, .func (.func 29) #[] #[], 8⟩, ⟨.int .i64 13, .func (.func 30) #[] #[], 9⟩, ⟨.int .i64 2, .func (.func 31) #[] #[], 10⟩, ⟨.int .i64 3, .func (.func 32) #[] #[], 11⟩, ⟨.int .i64 4, .func (.func 33) #[] #[], 12⟩, ⟨.int .i64 7, .func (.func 34) #[] #[], 13⟩, ⟨.int .i64 8, .func (.func 35) #[] #[], 14⟩, ⟨.int .i64 6, .func (.func 36) #[] #[], 15⟩, ⟨.int .i64 10, .func (.func 37) #[] #[], 16⟩, ⟨.int .i64 11, .func (.func 38) #[] #[], 17⟩, ⟨.int .i64 16, .func (.func 39) #[] #[], 18⟩, ⟨.int .i64 14, .func (.func 40) #[] #[], 19⟩] 20)) := (((Below.refl _ _).alloc (Nat.le_refl _) _).alloc (by simp) _).alloc (by simp; omega) _
  exact hb0.trans (hs1.keep.below (by simp; omega) (fun k hk hc => by
    rcases hc with hc | hc
    · omega
    · simp [Value.ownBlock] at hc))

set_option maxRecDepth 100000 in
set_option maxHeartbeats 6400000 in
theorem sel_13 (w : World) (i : I9) (A : Option Addr) (hs : List HV) (hc : Nat) (bs : Int) (hh : RepH w w.heap.size A hs) (hm : hs.length < 1000000000000000000) (hop : i.op = 13) :
    Calls Tryd.prog 9 #[.agg #[.int .i64 i.op, .int .i64 i.op2, .int .i64 i.ty, .int .i64 i.d, .int .i64 i.a, .int .i64 i.b, .int .i64 i.n, .int .i64 i.count, .int .i64 i.step], .slice A hs.length hc, .int .i64 bs] w (Selects w (makeL hs bs i.d ⟨19, 0, 0, 0, 0⟩)) := by
  obtain ⟨op, op2, ty, d, a, b, n, count, step⟩ := i
  simp only at hop
  subst hop
  have hdo := fun W g hl => result_any W g w.heap.size ⟨13, op2, ty, d, a, b, n, count, step⟩ A hs hc bs (.slice none 0 0) [] hl (by simp)
  have HDO := Lib.hid hdo
  clear hdo
  have hmm := @run_makeMap Tryd.prog
  have hins := fun W k hk es c n v h => run_mapUpdate_at (P := Tryd.prog) 66 3 64 Tryd.underlying66 .i64 Tryd.underlying3 W k hk es c n v h
  have hlk := fun W k hk => run_lookup_at (P := Tryd.prog) 66 3 64 Tryd.underlying66 .i64 Tryd.underlying3 W k hk #[⟨.int .i64 0, .func (.func 21) #[] #[], 0⟩, ⟨.int .i64 18, .func (.func 22) #[] #[], 1⟩, ⟨.int .i64 15, .func (.func 23) #[] #[], 2⟩, ⟨.int .i64 12, .func (.func 24) #[] #[], 3⟩, ⟨.int .i64 17, .func (.func 25) #[] #[], 4⟩, ⟨.int .i64 19, .func (.func 26) #[] #[], 5⟩, ⟨.int .i64 1, .func (.func 27) #[] #[], 6⟩, ⟨.int .i64 5, .func (.func 28) #[] #[], 7⟩, ⟨.int .i64 9, .func (.func 29) #[] #[], 8⟩, ⟨.int .i64 13, .func (.func 30) #[] #[], 9⟩, ⟨.int .i64 2, .func (.func 31) #[] #[], 10⟩, ⟨.int .i64 3, .func (.func 32) #[] #[], 11⟩, ⟨.int .i64 4, .func (.func 33) #[] #[], 12⟩, ⟨.int .i64 7, .func (.func 34) #[] #[], 13⟩, ⟨.int .i64 8, .func (.func 35) #[] #[], 14⟩, ⟨.int .i64 6, .func (.func 36) #[] #[], 15⟩, ⟨.int .i64 10, .func (.func 37) #[] #[], 16⟩, ⟨.int .i64 11, .func (.func 38) #[] #[], 17⟩, ⟨.int .i64 16, .func (.func 39) #[] #[], 18⟩, ⟨.int .i64 14, .func (.func 40) #[] #[], 19⟩] 20 13 9 _ rfl
  go_enter Tryd.func9, Tryd.ntmps9
  go_wp2_with (first | (rw [hins]; rotate_left; (focus (simp; done)); (focus rfl)))
  have hcho : Cho ((w.alloc (.cells #[.int .i64 13, .int .i64 op2, .int .i64 ty, .int .i64 d, .int .i64 a, .int .i64 b, .int .i64 n, .int .i64 count, .int .i64 step] 23)).alloc (.cells #[.int .i64 13, .int .i64 op2, .int .i64 ty, .int .i64 d, .int .i64 a, .int .i64 b, .int .i64 n, .int .i64 count, .int .i64 step, .slice A hs.length hc, .int .i64 bs, .slice none 0 0] 63)) (w.heap.size + 1) w.heap.size ⟨13, op2, ty, d, a, b, n, count, step⟩ A hs hc bs (.slice none 0 0) [] :=
    ⟨Blk.newAt (by simp), World.ownsRow_nil _ _ _ _, hh.kept (S := fun _ => False) (((Keep.refl w _).alloc _).alloc _) (Nat.le_refl _) (fun _ _ h => h), by simp; omega, by omega, hm⟩
  refine (HDO.out _ _ (hcho.alloc _)).mono ?_
  rintro e w1 ⟨rfl, ov, hl1, hs1⟩
  have hglt := hl1.blk.lt
  have l11 := hl1.blk.cell 11
  simp at l11
  go_wp2_with fail
  go_ret
  refine ⟨ov, rfl, by simpa using hl1.own, ?_⟩
  have hb0 : Below w.heap.size w (((w.alloc (.cells #[.int .i64 13, .int .i64 op2, .int .i64 ty, .int .i64 d, .int .i64 a, .int .i64 b, .int .i64 n, .int .i64 count, .int .i64 step] 23)).alloc (.cells #[.int .i64 13, .int .i64 op2, .int .i64 ty, .int .i64 d, .int .i64 a, .int .i64 b, .int .i64 n, .int .i64 count, .int .i64 step, .slice A hs.length hc, .int .i64 bs, .slice none 0 0] 63)).alloc (.map #[⟨.int .i64 0, .func (.func 21) #[] #[], 0⟩, ⟨.int .i64 18, .func (.func 22) #[] #[], 1⟩, ⟨.int .i64 15, .func (.func 23) #[] #[], 2⟩, ⟨.int .i64 12, .func (.func 24) #[] #[], 3⟩, ⟨.int .i64 17, .func (.func 25) #[] #[], 4⟩, ⟨.int .i64 19, .func (.func 26) #[] #[], 5⟩, ⟨.int .i64 1, .func (.func 27) #[] #[], 6⟩, ⟨.int .i64 5, .func (.func 28) #[] #[], 7⟩, ⟨.int .i64 9, .func (.func 29) #[] #[], 8⟩, ⟨.int .i64 13, .func (.func 30) #[] #[], 9⟩, ⟨.int .i64 2, .func (.func 31) #[] #[], 10⟩, ⟨.int .i64 3, .func (.func 32) #[] #[], 11⟩, ⟨.int .i64 4, .func (.func 33) #[] #[], 12⟩, ⟨.int .i64 7, .func (.func 34) #[] #[], 13⟩, ⟨.int .i64 8, .func (.func 35) #[] #[], 14⟩, ⟨.int .i64 6, .func (.func 36) #[] #[], 15⟩, ⟨.int .i64 10, .func (.func 37) #[] #[], 16⟩, ⟨.int .i64 11, .func (.func 38) #[] #[], 17⟩, ⟨.int .i64 16, .func (.func 39) #[] #[], 18⟩, ⟨.int .i64 14, .func (.func 40) #[] #[], 19⟩] 20)) := (((Below.refl _ _).alloc (Nat.le_refl _) _).alloc (by simp) _).alloc (by simp; omega) _
  exact hb0.trans (hs1.keep.below (by simp; omega) (fun k hk hc => by
    rcases hc with hc | hc
    · omega
    · simp [Value.ownBlock] at hc))

set_option maxRecDepth 100000 in
set_option maxHeartbeats 6400000 in
theorem sel_14 (w : World) (i : I9) (A : Option Addr) (hs : List HV) (hc : Nat) (bs : Int) (hh : RepH w w.heap.size A hs) (hm : hs.length < 1000000000000000000) (hop : i.op = 14) :
    Calls Tryd.prog 9 #[.agg #[.int .i64 i.op, .int .i64 i.op2, .int .i64 i.ty, .int .i64 i.d, .int .i64 i.a, .int .i64 i.b, .int .i64 i.n, .int .i64 i.count, .int .i64 i.step], .slice A hs.length hc, .int .i64 bs] w (Selects w (readL hs bs i.a 6 ++ [⟨17, readR hs i.a 6, 0, 0, wrap32 i.n⟩])) := by
  obtain ⟨op, op2, ty, d, a, b, n, count, step⟩ := i
  simp only at hop
  subst hop
  have hdo := fun W g hl => back_any W g w.heap.size ⟨14, op2, ty, d, a, b, n, count, step⟩ A hs hc bs (.slice none 0 0) [] hl (by simp)
  have HDO := Lib.hid hdo
  clear hdo
  have hmm := @run_makeMap Tryd.prog
  have hins := fun W k hk es c n v h => run_mapUpdate_at (P := Tryd.prog) 66 3 64 Tryd.underlying66 .i64 Tryd.underlying3 W k hk es c n v h
  have hlk := fun W k hk => run_lookup_at (P := Tryd.prog) 66 3 64 Tryd.underlying66 .i64 Tryd.underlying3 W k hk #[⟨.int .i64 0, .func (.func 21) #[] #[], 0⟩, ⟨.int .i64 18, .func (.func 22) #[] #[], 1⟩, ⟨.int .i64 15, .func (.func 23) #[] #[], 2⟩, ⟨.int .i64 12, .func (.func 24) #[] #[], 3⟩, ⟨.int .i64 17, .func (.func 25) #[] #[], 4⟩, ⟨.int .i64 19, .func (.func 26) #[] #[], 5⟩, ⟨.int .i64 1, .func (.func 27) #[] #[], 6⟩, ⟨.int .i64 5, .func (.func 28) #[] #[], 7⟩, ⟨.int .i64 9, .func (.func 29) #[] #[], 8⟩, ⟨.int .i64 13, .func (.func 30) #[] #[], 9⟩, ⟨.int .i64 2, .func (.func 31) #[] #[], 10⟩, ⟨.int .i64 3, .func (.func 32) #[] #[], 11⟩, ⟨.int .i64 4, .func (.func 33) #[] #[], 12⟩, ⟨.int .i64 7, .func (.func 34) #[] #[], 13⟩, ⟨.int .i64 8, .func (.func 35) #[] #[], 14⟩, ⟨.int .i64 6, .func (.func 36) #[] #[], 15⟩, ⟨.int .i64 10, .func (.func 37) #[] #[], 16⟩, ⟨.int .i64 11, .func (.func 38) #[] #[], 17⟩, ⟨.int .i64 16, .func (.func 39) #[] #[], 18⟩, ⟨.int .i64 14, .func (.func 40) #[] #[], 19⟩] 20 14 19 _ rfl
  go_enter Tryd.func9, Tryd.ntmps9
  go_wp2_with (first | (rw [hins]; rotate_left; (focus (simp; done)); (focus rfl)))
  have hcho : Cho ((w.alloc (.cells #[.int .i64 14, .int .i64 op2, .int .i64 ty, .int .i64 d, .int .i64 a, .int .i64 b, .int .i64 n, .int .i64 count, .int .i64 step] 23)).alloc (.cells #[.int .i64 14, .int .i64 op2, .int .i64 ty, .int .i64 d, .int .i64 a, .int .i64 b, .int .i64 n, .int .i64 count, .int .i64 step, .slice A hs.length hc, .int .i64 bs, .slice none 0 0] 63)) (w.heap.size + 1) w.heap.size ⟨14, op2, ty, d, a, b, n, count, step⟩ A hs hc bs (.slice none 0 0) [] :=
    ⟨Blk.newAt (by simp), World.ownsRow_nil _ _ _ _, hh.kept (S := fun _ => False) (((Keep.refl w _).alloc _).alloc _) (Nat.le_refl _) (fun _ _ h => h), by simp; omega, by omega, hm⟩
  refine (HDO.out _ _ (hcho.alloc _)).mono ?_
  rintro e w1 ⟨rfl, ov, hl1, hs1⟩
  have hglt := hl1.blk.lt
  have l11 := hl1.blk.cell 11
  simp at l11
  go_wp2_with fail
  go_ret
  refine ⟨ov, rfl, by simpa using hl1.own, ?_⟩
  have hb0 : Below w.heap.size w (((w.alloc (.cells #[.int .i64 14, .int .i64 op2, .int .i64 ty, .int .i64 d, .int .i64 a, .int .i64 b, .int .i64 n, .int .i64 count, .int .i64 step] 23)).alloc (.cells #[.int .i64 14, .int .i64 op2, .int .i64 ty, .int .i64 d, .int .i64 a, .int .i64 b, .int .i64 n, .int .i64 count, .int .i64 step, .slice A hs.length hc, .int .i64 bs, .slice none 0 0] 63)).alloc (.map #[⟨.int .i64 0, .func (.func 21) #[] #[], 0⟩, ⟨.int .i64 18, .func (.func 22) #[] #[], 1⟩, ⟨.int .i64 15, .func (.func 23) #[] #[], 2⟩, ⟨.int .i64 12, .func (.func 24) #[] #[], 3⟩, ⟨.int .i64 17, .func (.func 25) #[] #[], 4⟩, ⟨.int .i64 19, .func (.func 26) #[] #[], 5⟩, ⟨.int .i64 1, .func (.func 27) #[] #[], 6⟩, ⟨.int .i64 5, .func (.func 28) #[] #[], 7⟩, ⟨.int .i64 9, .func (.func 29) #[] #[], 8⟩, ⟨.int .i64 13, .func (.func 30) #[] #[], 9⟩, ⟨.int .i64 2, .func (.func 31) #[] #[], 10⟩, ⟨.int .i64 3, .func (.func 32) #[] #[], 11⟩, ⟨.int .i64 4, .func (.func 33) #[] #[], 12⟩, ⟨.int .i64 7, .func (.func 34) #[] #[], 13⟩, ⟨.int .i64 8, .func (.func 35) #[] #[], 14⟩, ⟨.int .i64 6, .func (.func 36) #[] #[], 15⟩, ⟨.int .i64 10, .func (.func 37) #[] #[], 16⟩, ⟨.int .i64 11, .func (.func 38) #[] #[], 17⟩, ⟨.int .i64 16, .func (.func 39) #[] #[], 18⟩, ⟨.int .i64 14, .func (.func 40) #[] #[], 19⟩] 20)) := (((Below.refl _ _).alloc (Nat.le_refl _) _).alloc (by simp) _).alloc (by simp; omega) _
  exact hb0.trans (hs1.keep.below (by simp; omega) (fun k hk hc => by
    rcases hc with hc | hc
    · omega
    · simp [Value.ownBlock] at hc))

set_option maxRecDepth 100000 in
set_option maxHeartbeats 6400000 in
theorem sel_15 (w : World) (i : I9) (A : Option Addr) (hs : List HV) (hc : Nat) (bs : Int) (hh : RepH w w.heap.size A hs) (hm : hs.length < 1000000000000000000) (hop : i.op = 15) :
    Calls Tryd.prog 9 #[.agg #[.int .i64 i.op, .int .i64 i.op2, .int .i64 i.ty, .int .i64 i.d, .int .i64 i.a, .int .i64 i.b, .int .i64 i.n, .int .i64 i.count, .int .i64 i.step], .slice A hs.length hc, .int .i64 bs] w (Selects w ([⟨20, 0, 0, 0, wrap32 i.n⟩])) := by
  obtain ⟨op, op2, ty, d, a, b, n, count, step⟩ := i
  simp only at hop
  subst hop
  have hdo := fun W g hl => jump_any W g w.heap.size ⟨15, op2, ty, d, a, b, n, count, step⟩ A hs hc bs (.slice none 0 0) [] hl (by simp)
  have HDO := Lib.hid hdo
  clear hdo
  have hmm := @run_makeMap Tryd.prog
  have hins := fun W k hk es c n v h => run_mapUpdate_at (P := Tryd.prog) 66 3 64 Tryd.underlying66 .i64 Tryd.underlying3 W k hk es c n v h
  have hlk := fun W k hk => run_lookup_at (P := Tryd.prog) 66 3 64 Tryd.underlying66 .i64 Tryd.underlying3 W k hk #[⟨.int .i64 0, .func (.func 21) #[] #[], 0⟩, ⟨.int .i64 18, .func (.func 22) #[] #[], 1⟩, ⟨.int .i64 15, .func (.func 23) #[] #[], 2⟩, ⟨.int .i64 12, .func (.func 24) #[] #[], 3⟩, ⟨.int .i64 17, .func (.func 25) #[] #[], 4⟩, ⟨.int .i64 19, .func (.func 26) #[] #[], 5⟩, ⟨.int .i64 1, .func (.func 27) #[] #[], 6⟩, ⟨.int .i64 5, .func (.func 28) #[] #[], 7⟩, ⟨.int .i64 9, .func (.func 29) #[] #[], 8⟩, ⟨.int .i64 13, .func (.func 30) #[] #[], 9⟩, ⟨.int .i64 2, .func (.func 31) #[] #[], 10⟩, ⟨.int .i64 3, .func (.func 32) #[] #[], 11⟩, ⟨.int .i64 4, .func (.func 33) #[] #[], 12⟩, ⟨.int .i64 7, .func (.func 34) #[] #[], 13⟩, ⟨.int .i64 8, .func (.func 35) #[] #[], 14⟩, ⟨.int .i64 6, .func (.func 36) #[] #[], 15⟩, ⟨.int .i64 10, .func (.func 37) #[] #[], 16⟩, ⟨.int .i64 11, .func (.func 38) #[] #[], 17⟩, ⟨.int .i64 16, .func (.func 39) #[] #[], 18⟩, ⟨.int .i64 14, .func (.func 40) #[] #[], 19⟩] 20 15 2 _ rfl
  go_enter Tryd.func9, Tryd.ntmps9
  go_wp2_with (first | (rw [hins]; rotate_left; (focus (simp; done)); (focus rfl)))
  have hcho : Cho ((w.alloc (.cells #[.int .i64 15, .int .i64 op2, .int .i64 ty, .int .i64 d, .int .i64 a, .int .i64 b, .int .i64 n, .int .i64 count, .int .i64 step] 23)).alloc (.cells #[.int .i64 15, .int .i64 op2, .int .i64 ty, .int .i64 d, .int .i64 a, .int .i64 b, .int .i64 n, .int .i64 count, .int .i64 step, .slice A hs.length hc, .int .i64 bs, .slice none 0 0] 63)) (w.heap.size + 1) w.heap.size ⟨15, op2, ty, d, a, b, n, count, step⟩ A hs hc bs (.slice none 0 0) [] :=
    ⟨Blk.newAt (by simp), World.ownsRow_nil _ _ _ _, hh.kept (S := fun _ => False) (((Keep.refl w _).alloc _).alloc _) (Nat.le_refl _) (fun _ _ h => h), by simp; omega, by omega, hm⟩
  refine (HDO.out _ _ (hcho.alloc _)).mono ?_
  rintro e w1 ⟨rfl, ov, hl1, hs1⟩
  have hglt := hl1.blk.lt
  have l11 := hl1.blk.cell 11
  simp at l11
  go_wp2_with fail
  go_ret
  refine ⟨ov, rfl, by simpa using hl1.own, ?_⟩
  have hb0 : Below w.heap.size w (((w.alloc (.cells #[.int .i64 15, .int .i64 op2, .int .i64 ty, .int .i64 d, .int .i64 a, .int .i64 b, .int .i64 n, .int .i64 count, .int .i64 step] 23)).alloc (.cells #[.int .i64 15, .int .i64 op2, .int .i64 ty, .int .i64 d, .int .i64 a, .int .i64 b, .int .i64 n, .int .i64 count, .int .i64 step, .slice A hs.length hc, .int .i64 bs, .slice none 0 0] 63)).alloc (.map #[⟨.int .i64 0, .func (.func 21) #[] #[], 0⟩, ⟨.int .i64 18, .func (.func 22) #[] #[], 1⟩, ⟨.int .i64 15, .func (.func 23) #[] #[], 2⟩, ⟨.int .i64 12, .func (.func 24) #[] #[], 3⟩, ⟨.int .i64 17, .func (.func 25) #[] #[], 4⟩, ⟨.int .i64 19, .func (.func 26) #[] #[], 5⟩, ⟨.int .i64 1, .func (.func 27) #[] #[], 6⟩, ⟨.int .i64 5, .func (.func 28) #[] #[], 7⟩, ⟨.int .i64 9, .func (.func 29) #[] #[], 8⟩, ⟨.int .i64 13, .func (.func 30) #[] #[], 9⟩, ⟨.int .i64 2, .func (.func 31) #[] #[], 10⟩, ⟨.int .i64 3, .func (.func 32) #[] #[], 11⟩, ⟨.int .i64 4, .func (.func 33) #[] #[], 12⟩, ⟨.int .i64 7, .func (.func 34) #[] #[], 13⟩, ⟨.int .i64 8, .func (.func 35) #[] #[], 14⟩, ⟨.int .i64 6, .func (.func 36) #[] #[], 15⟩, ⟨.int .i64 10, .func (.func 37) #[] #[], 16⟩, ⟨.int .i64 11, .func (.func 38) #[] #[], 17⟩, ⟨.int .i64 16, .func (.func 39) #[] #[], 18⟩, ⟨.int .i64 14, .func (.func 40) #[] #[], 19⟩] 20)) := (((Below.refl _ _).alloc (Nat.le_refl _) _).alloc (by simp) _).alloc (by simp; omega) _
  exact hb0.trans (hs1.keep.below (by simp; omega) (fun k hk hc => by
    rcases hc with hc | hc
    · omega
    · simp [Value.ownBlock] at hc))

set_option maxRecDepth 100000 in
set_option maxHeartbeats 6400000 in
theorem sel_16 (w : World) (i : I9) (A : Option Addr) (hs : List HV) (hc : Nat) (bs : Int) (hh : RepH w w.heap.size A hs) (hm : hs.length < 1000000000000000000) (hop : i.op = 16) :
    Calls Tryd.prog 9 #[.agg #[.int .i64 i.op, .int .i64 i.op2, .int .i64 i.ty, .int .i64 i.d, .int .i64 i.a, .int .i64 i.b, .int .i64 i.n, .int .i64 i.count, .int .i64 i.step], .slice A hs.length hc, .int .i64 bs] w (Selects w (readL hs bs i.a 6 ++ [⟨21, readR hs i.a 6, 0, 0, wrap32 i.n⟩])) := by
  obtain ⟨op, op2, ty, d, a, b, n, count, step⟩ := i
  simp only at hop
  subst hop
  have hdo := fun W g hl => jumpZ_any W g w.heap.size ⟨16, op2, ty, d, a, b, n, count, step⟩ A hs hc bs (.slice none 0 0) [] hl (by simp)
  have HDO := Lib.hid hdo
  clear hdo
  have hmm := @run_makeMap Tryd.prog
  have hins := fun W k hk es c n v h => run_mapUpdate_at (P := Tryd.prog) 66 3 64 Tryd.underlying66 .i64 Tryd.underlying3 W k hk es c n v h
  have hlk := fun W k hk => run_lookup_at (P := Tryd.prog) 66 3 64 Tryd.underlying66 .i64 Tryd.underlying3 W k hk #[⟨.int .i64 0, .func (.func 21) #[] #[], 0⟩, ⟨.int .i64 18, .func (.func 22) #[] #[], 1⟩, ⟨.int .i64 15, .func (.func 23) #[] #[], 2⟩, ⟨.int .i64 12, .func (.func 24) #[] #[], 3⟩, ⟨.int .i64 17, .func (.func 25) #[] #[], 4⟩, ⟨.int .i64 19, .func (.func 26) #[] #[], 5⟩, ⟨.int .i64 1, .func (.func 27) #[] #[], 6⟩, ⟨.int .i64 5, .func (.func 28) #[] #[], 7⟩, ⟨.int .i64 9, .func (.func 29) #[] #[], 8⟩, ⟨.int .i64 13, .func (.func 30) #[] #[], 9⟩, ⟨.int .i64 2, .func (.func 31) #[] #[], 10⟩, ⟨.int .i64 3, .func (.func 32) #[] #[], 11⟩, ⟨.int .i64 4, .func (.func 33) #[] #[], 12⟩, ⟨.int .i64 7, .func (.func 34) #[] #[], 13⟩, ⟨.int .i64 8, .func (.func 35) #[] #[], 14⟩, ⟨.int .i64 6, .func (.func 36) #[] #[], 15⟩, ⟨.int .i64 10, .func (.func 37) #[] #[], 16⟩, ⟨.int .i64 11, .func (.func 38) #[] #[], 17⟩, ⟨.int .i64 16, .func (.func 39) #[] #[], 18⟩, ⟨.int .i64 14, .func (.func 40) #[] #[], 19⟩] 20 16 18 _ rfl
  go_enter Tryd.func9, Tryd.ntmps9
  go_wp2_with (first | (rw [hins]; rotate_left; (focus (simp; done)); (focus rfl)))
  have hcho : Cho ((w.alloc (.cells #[.int .i64 16, .int .i64 op2, .int .i64 ty, .int .i64 d, .int .i64 a, .int .i64 b, .int .i64 n, .int .i64 count, .int .i64 step] 23)).alloc (.cells #[.int .i64 16, .int .i64 op2, .int .i64 ty, .int .i64 d, .int .i64 a, .int .i64 b, .int .i64 n, .int .i64 count, .int .i64 step, .slice A hs.length hc, .int .i64 bs, .slice none 0 0] 63)) (w.heap.size + 1) w.heap.size ⟨16, op2, ty, d, a, b, n, count, step⟩ A hs hc bs (.slice none 0 0) [] :=
    ⟨Blk.newAt (by simp), World.ownsRow_nil _ _ _ _, hh.kept (S := fun _ => False) (((Keep.refl w _).alloc _).alloc _) (Nat.le_refl _) (fun _ _ h => h), by simp; omega, by omega, hm⟩
  refine (HDO.out _ _ (hcho.alloc _)).mono ?_
  rintro e w1 ⟨rfl, ov, hl1, hs1⟩
  have hglt := hl1.blk.lt
  have l11 := hl1.blk.cell 11
  simp at l11
  go_wp2_with fail
  go_ret
  refine ⟨ov, rfl, by simpa using hl1.own, ?_⟩
  have hb0 : Below w.heap.size w (((w.alloc (.cells #[.int .i64 16, .int .i64 op2, .int .i64 ty, .int .i64 d, .int .i64 a, .int .i64 b, .int .i64 n, .int .i64 count, .int .i64 step] 23)).alloc (.cells #[.int .i64 16, .int .i64 op2, .int .i64 ty, .int .i64 d, .int .i64 a, .int .i64 b, .int .i64 n, .int .i64 count, .int .i64 step, .slice A hs.length hc, .int .i64 bs, .slice none 0 0] 63)).alloc (.map #[⟨.int .i64 0, .func (.func 21) #[] #[], 0⟩, ⟨.int .i64 18, .func (.func 22) #[] #[], 1⟩, ⟨.int .i64 15, .func (.func 23) #[] #[], 2⟩, ⟨.int .i64 12, .func (.func 24) #[] #[], 3⟩, ⟨.int .i64 17, .func (.func 25) #[] #[], 4⟩, ⟨.int .i64 19, .func (.func 26) #[] #[], 5⟩, ⟨.int .i64 1, .func (.func 27) #[] #[], 6⟩, ⟨.int .i64 5, .func (.func 28) #[] #[], 7⟩, ⟨.int .i64 9, .func (.func 29) #[] #[], 8⟩, ⟨.int .i64 13, .func (.func 30) #[] #[], 9⟩, ⟨.int .i64 2, .func (.func 31) #[] #[], 10⟩, ⟨.int .i64 3, .func (.func 32) #[] #[], 11⟩, ⟨.int .i64 4, .func (.func 33) #[] #[], 12⟩, ⟨.int .i64 7, .func (.func 34) #[] #[], 13⟩, ⟨.int .i64 8, .func (.func 35) #[] #[], 14⟩, ⟨.int .i64 6, .func (.func 36) #[] #[], 15⟩, ⟨.int .i64 10, .func (.func 37) #[] #[], 16⟩, ⟨.int .i64 11, .func (.func 38) #[] #[], 17⟩, ⟨.int .i64 16, .func (.func 39) #[] #[], 18⟩, ⟨.int .i64 14, .func (.func 40) #[] #[], 19⟩] 20)) := (((Below.refl _ _).alloc (Nat.le_refl _) _).alloc (by simp) _).alloc (by simp; omega) _
  exact hb0.trans (hs1.keep.below (by simp; omega) (fun k hk hc => by
    rcases hc with hc | hc
    · omega
    · simp [Value.ownBlock] at hc))

set_option maxRecDepth 100000 in
set_option maxHeartbeats 6400000 in
theorem sel_17 (w : World) (i : I9) (A : Option Addr) (hs : List HV) (hc : Nat) (bs : Int) (hh : RepH w w.heap.size A hs) (hm : hs.length < 1000000000000000000) (hop : i.op = 17) :
    Calls Tryd.prog 9 #[.agg #[.int .i64 i.op, .int .i64 i.op2, .int .i64 i.ty, .int .i64 i.d, .int .i64 i.a, .int .i64 i.b, .int .i64 i.n, .int .i64 i.count, .int .i64 i.step], .slice A hs.length hc, .int .i64 bs] w (Selects w ([⟨22, 0, 0, 0, wrap32 i.n⟩])) := by
  obtain ⟨op, op2, ty, d, a, b, n, count, step⟩ := i
  simp only at hop
  subst hop
  have hdo := fun W g hl => crit_any W g w.heap.size ⟨17, op2, ty, d, a, b, n, count, step⟩ A hs hc bs (.slice none 0 0) [] hl (by simp)
  have HDO := Lib.hid hdo
  clear hdo
  have hmm := @run_makeMap Tryd.prog
  have hins := fun W k hk es c n v h => run_mapUpdate_at (P := Tryd.prog) 66 3 64 Tryd.underlying66 .i64 Tryd.underlying3 W k hk es c n v h
  have hlk := fun W k hk => run_lookup_at (P := Tryd.prog) 66 3 64 Tryd.underlying66 .i64 Tryd.underlying3 W k hk #[⟨.int .i64 0, .func (.func 21) #[] #[], 0⟩, ⟨.int .i64 18, .func (.func 22) #[] #[], 1⟩, ⟨.int .i64 15, .func (.func 23) #[] #[], 2⟩, ⟨.int .i64 12, .func (.func 24) #[] #[], 3⟩, ⟨.int .i64 17, .func (.func 25) #[] #[], 4⟩, ⟨.int .i64 19, .func (.func 26) #[] #[], 5⟩, ⟨.int .i64 1, .func (.func 27) #[] #[], 6⟩, ⟨.int .i64 5, .func (.func 28) #[] #[], 7⟩, ⟨.int .i64 9, .func (.func 29) #[] #[], 8⟩, ⟨.int .i64 13, .func (.func 30) #[] #[], 9⟩, ⟨.int .i64 2, .func (.func 31) #[] #[], 10⟩, ⟨.int .i64 3, .func (.func 32) #[] #[], 11⟩, ⟨.int .i64 4, .func (.func 33) #[] #[], 12⟩, ⟨.int .i64 7, .func (.func 34) #[] #[], 13⟩, ⟨.int .i64 8, .func (.func 35) #[] #[], 14⟩, ⟨.int .i64 6, .func (.func 36) #[] #[], 15⟩, ⟨.int .i64 10, .func (.func 37) #[] #[], 16⟩, ⟨.int .i64 11, .func (.func 38) #[] #[], 17⟩, ⟨.int .i64 16, .func (.func 39) #[] #[], 18⟩, ⟨.int .i64 14, .func (.func 40) #[] #[], 19⟩] 20 17 4 _ rfl
  go_enter Tryd.func9, Tryd.ntmps9
  go_wp2_with (first | (rw [hins]; rotate_left; (focus (simp; done)); (focus rfl)))
  have hcho : Cho ((w.alloc (.cells #[.int .i64 17, .int .i64 op2, .int .i64 ty, .int .i64 d, .int .i64 a, .int .i64 b, .int .i64 n, .int .i64 count, .int .i64 step] 23)).alloc (.cells #[.int .i64 17, .int .i64 op2, .int .i64 ty, .int .i64 d, .int .i64 a, .int .i64 b, .int .i64 n, .int .i64 count, .int .i64 step, .slice A hs.length hc, .int .i64 bs, .slice none 0 0] 63)) (w.heap.size + 1) w.heap.size ⟨17, op2, ty, d, a, b, n, count, step⟩ A hs hc bs (.slice none 0 0) [] :=
    ⟨Blk.newAt (by simp), World.ownsRow_nil _ _ _ _, hh.kept (S := fun _ => False) (((Keep.refl w _).alloc _).alloc _) (Nat.le_refl _) (fun _ _ h => h), by simp; omega, by omega, hm⟩
  refine (HDO.out _ _ (hcho.alloc _)).mono ?_
  rintro e w1 ⟨rfl, ov, hl1, hs1⟩
  have hglt := hl1.blk.lt
  have l11 := hl1.blk.cell 11
  simp at l11
  go_wp2_with fail
  go_ret
  refine ⟨ov, rfl, by simpa using hl1.own, ?_⟩
  have hb0 : Below w.heap.size w (((w.alloc (.cells #[.int .i64 17, .int .i64 op2, .int .i64 ty, .int .i64 d, .int .i64 a, .int .i64 b, .int .i64 n, .int .i64 count, .int .i64 step] 23)).alloc (.cells #[.int .i64 17, .int .i64 op2, .int .i64 ty, .int .i64 d, .int .i64 a, .int .i64 b, .int .i64 n, .int .i64 count, .int .i64 step, .slice A hs.length hc, .int .i64 bs, .slice none 0 0] 63)).alloc (.map #[⟨.int .i64 0, .func (.func 21) #[] #[], 0⟩, ⟨.int .i64 18, .func (.func 22) #[] #[], 1⟩, ⟨.int .i64 15, .func (.func 23) #[] #[], 2⟩, ⟨.int .i64 12, .func (.func 24) #[] #[], 3⟩, ⟨.int .i64 17, .func (.func 25) #[] #[], 4⟩, ⟨.int .i64 19, .func (.func 26) #[] #[], 5⟩, ⟨.int .i64 1, .func (.func 27) #[] #[], 6⟩, ⟨.int .i64 5, .func (.func 28) #[] #[], 7⟩, ⟨.int .i64 9, .func (.func 29) #[] #[], 8⟩, ⟨.int .i64 13, .func (.func 30) #[] #[], 9⟩, ⟨.int .i64 2, .func (.func 31) #[] #[], 10⟩, ⟨.int .i64 3, .func (.func 32) #[] #[], 11⟩, ⟨.int .i64 4, .func (.func 33) #[] #[], 12⟩, ⟨.int .i64 7, .func (.func 34) #[] #[], 13⟩, ⟨.int .i64 8, .func (.func 35) #[] #[], 14⟩, ⟨.int .i64 6, .func (.func 36) #[] #[], 15⟩, ⟨.int .i64 10, .func (.func 37) #[] #[], 16⟩, ⟨.int .i64 11, .func (.func 38) #[] #[], 17⟩, ⟨.int .i64 16, .func (.func 39) #[] #[], 18⟩, ⟨.int .i64 14, .func (.func 40) #[] #[], 19⟩] 20)) := (((Below.refl _ _).alloc (Nat.le_refl _) _).alloc (by simp) _).alloc (by simp; omega) _
  exact hb0.trans (hs1.keep.below (by simp; omega) (fun k hk hc => by
    rcases hc with hc | hc
    · omega
    · simp [Value.ownBlock] at hc))

set_option maxRecDepth 100000 in
set_option maxHeartbeats 6400000 in
theorem sel_18 (w : World) (i : I9) (A : Option Addr) (hs : List HV) (hc : Nat) (bs : Int) (hh : RepH w w.heap.size A hs) (hm : hs.length < 1000000000000000000) (hop : i.op = 18) :
    Calls Tryd.prog 9 #[.agg #[.int .i64 i.op, .int .i64 i.op2, .int .i64 i.ty, .int .i64 i.d, .int .i64 i.a, .int .i64 i.b, .int .i64 i.n, .int .i64 i.count, .int .i64 i.step], .slice A hs.length hc, .int .i64 bs] w (Selects w ([⟨1, 0, 0, 0, wrap32 i.n⟩])) := by
  obtain ⟨op, op2, ty, d, a, b, n, count, step⟩ := i
  simp only at hop
  subst hop
  have hdo := fun W g hl => wait_any W g w.heap.size ⟨18, op2, ty, d, a, b, n, count, step⟩ A hs hc bs (.slice none 0 0) [] hl (by simp)
  have HDO := Lib.hid hdo
  clear hdo
  have hmm := @run_makeMap Tryd.prog
  have hins := fun W k hk es c n v h => run_mapUpdate_at (P := Tryd.prog) 66 3 64 Tryd.underlying66 .i64 Tryd.underlying3 W k hk es c n v h
  have hlk := fun W k hk => run_lookup_at (P := Tryd.prog) 66 3 64 Tryd.underlying66 .i64 Tryd.underlying3 W k hk #[⟨.int .i64 0, .func (.func 21) #[] #[], 0⟩, ⟨.int .i64 18, .func (.func 22) #[] #[], 1⟩, ⟨.int .i64 15, .func (.func 23) #[] #[], 2⟩, ⟨.int .i64 12, .func (.func 24) #[] #[], 3⟩, ⟨.int .i64 17, .func (.func 25) #[] #[], 4⟩, ⟨.int .i64 19, .func (.func 26) #[] #[], 5⟩, ⟨.int .i64 1, .func (.func 27) #[] #[], 6⟩, ⟨.int .i64 5, .func (.func 28) #[] #[], 7⟩, ⟨.int .i64 9, .func (.func 29) #[] #[], 8⟩, ⟨.int .i64 13, .func (.func 30) #[] #[], 9⟩, ⟨.int .i64 2, .func (.func 31) #[] #[], 10⟩, ⟨.int .i64 3, .func (.func 32) #[] #[], 11⟩, ⟨.int .i64 4, .func (.func 33) #[] #[], 12⟩, ⟨.int .i64 7, .func (.func 34) #[] #[], 13⟩, ⟨.int .i64 8, .func (.func 35) #[] #[], 14⟩, ⟨.int .i64 6, .func (.func 36) #[] #[], 15⟩, ⟨.int .i64 10, .func (.func 37) #[] #[], 16⟩, ⟨.int .i64 11, .func (.func 38) #[] #[], 17⟩, ⟨.int .i64 16, .func (.func 39) #[] #[], 18⟩, ⟨.int .i64 14, .func (.func 40) #[] #[], 19⟩] 20 18 1 _ rfl
  go_enter Tryd.func9, Tryd.ntmps9
  go_wp2_with (first | (rw [hins]; rotate_left; (focus (simp; done)); (focus rfl)))
  have hcho : Cho ((w.alloc (.cells #[.int .i64 18, .int .i64 op2, .int .i64 ty, .int .i64 d, .int .i64 a, .int .i64 b, .int .i64 n, .int .i64 count, .int .i64 step] 23)).alloc (.cells #[.int .i64 18, .int .i64 op2, .int .i64 ty, .int .i64 d, .int .i64 a, .int .i64 b, .int .i64 n, .int .i64 count, .int .i64 step, .slice A hs.length hc, .int .i64 bs, .slice none 0 0] 63)) (w.heap.size + 1) w.heap.size ⟨18, op2, ty, d, a, b, n, count, step⟩ A hs hc bs (.slice none 0 0) [] :=
    ⟨Blk.newAt (by simp), World.ownsRow_nil _ _ _ _, hh.kept (S := fun _ => False) (((Keep.refl w _).alloc _).alloc _) (Nat.le_refl _) (fun _ _ h => h), by simp; omega, by omega, hm⟩
  refine (HDO.out _ _ (hcho.alloc _)).mono ?_
  rintro e w1 ⟨rfl, ov, hl1, hs1⟩
  have hglt := hl1.blk.lt
  have l11 := hl1.blk.cell 11
  simp at l11
  go_wp2_with fail
  go_ret
  refine ⟨ov, rfl, by simpa using hl1.own, ?_⟩
  have hb0 : Below w.heap.size w (((w.alloc (.cells #[.int .i64 18, .int .i64 op2, .int .i64 ty, .int .i64 d, .int .i64 a, .int .i64 b, .int .i64 n, .int .i64 count, .int .i64 step] 23)).alloc (.cells #[.int .i64 18, .int .i64 op2, .int .i64 ty, .int .i64 d, .int .i64 a, .int .i64 b, .int .i64 n, .int .i64 count, .int .i64 step, .slice A hs.length hc, .int .i64 bs, .slice none 0 0] 63)).alloc (.map #[⟨.int .i64 0, .func (.func 21) #[] #[], 0⟩, ⟨.int .i64 18, .func (.func 22) #[] #[], 1⟩, ⟨.int .i64 15, .func (.func 23) #[] #[], 2⟩, ⟨.int .i64 12, .func (.func 24) #[] #[], 3⟩, ⟨.int .i64 17, .func (.func 25) #[] #[], 4⟩, ⟨.int .i64 19, .func (.func 26) #[] #[], 5⟩, ⟨.int .i64 1, .func (.func 27) #[] #[], 6⟩, ⟨.int .i64 5, .func (.func 28) #[] #[], 7⟩, ⟨.int .i64 9, .func (.func 29) #[] #[], 8⟩, ⟨.int .i64 13, .func (.func 30) #[] #[], 9⟩, ⟨.int .i64 2, .func (.func 31) #[] #[], 10⟩, ⟨.int .i64 3, .func (.func 32) #[] #[], 11⟩, ⟨.int .i64 4, .func (.func 33) #[] #[], 12⟩, ⟨.int .i64 7, .func (.func 34) #[] #[], 13⟩, ⟨.int .i64 8, .func (.func 35) #[] #[], 14⟩, ⟨.int .i64 6, .func (.func 36) #[] #[], 15⟩, ⟨.int .i64 10, .func (.func 37) #[] #[], 16⟩, ⟨.int .i64 11, .func (.func 38) #[] #[], 17⟩, ⟨.int .i64 16, .func (.func 39) #[] #[], 18⟩, ⟨.int .i64 14, .func (.func 40) #[] #[], 19⟩] 20)) := (((Below.refl _ _).alloc (Nat.le_refl _) _).alloc (by simp) _).alloc (by simp; omega) _
  exact hb0.trans (hs1.keep.below (by simp; omega) (fun k hk hc => by
    rcases hc with hc | hc
    · omega
    · simp [Value.ownBlock] at hc))

set_option maxRecDepth 100000 in
set_option maxHeartbeats 6400000 in
theorem sel_19 (w : World) (i : I9) (A : Option Addr) (hs : List HV) (hc : Nat) (bs : Int) (hh : RepH w w.heap.size A hs) (hm : hs.length < 1000000000000000000) (hop : i.op = 19) :
    Calls Tryd.prog 9 #[.agg #[.int .i64 i.op, .int .i64 i.op2, .int .i64 i.ty, .int .i64 i.d, .int .i64 i.a, .int .i64 i.b, .int .i64 i.n, .int .i64 i.count, .int .i64 i.step], .slice A hs.length hc, .int .i64 bs] w (Selects w ([⟨23, 0, 0, 0, wrap32 i.n⟩])) := by
  obtain ⟨op, op2, ty, d, a, b, n, count, step⟩ := i
  simp only at hop
  subst hop
  have hdo := fun W g hl => halt_any W g w.heap.size ⟨19, op2, ty, d, a, b, n, count, step⟩ A hs hc bs (.slice none 0 0) [] hl (by simp)
  have HDO := Lib.hid hdo
  clear hdo
  have hmm := @run_makeMap Tryd.prog
  have hins := fun W k hk es c n v h => run_mapUpdate_at (P := Tryd.prog) 66 3 64 Tryd.underlying66 .i64 Tryd.underlying3 W k hk es c n v h
  have hlk := fun W k hk => run_lookup_at (P := Tryd.prog) 66 3 64 Tryd.underlying66 .i64 Tryd.underlying3 W k hk #[⟨.int .i64 0, .func (.func 21) #[] #[], 0⟩, ⟨.int .i64 18, .func (.func 22) #[] #[], 1⟩, ⟨.int .i64 15, .func (.func 23) #[] #[], 2⟩, ⟨.int .i64 12, .func (.func 24) #[] #[], 3⟩, ⟨.int .i64 17, .func (.func 25) #[] #[], 4⟩, ⟨.int .i64 19, .func (.func 26) #[] #[], 5⟩, ⟨.int .i64 1, .func (.func 27) #[] #[], 6⟩, ⟨.int .i64 5, .func (.func 28) #[] #[], 7⟩, ⟨.int .i64 9, .func (.func 29) #[] #[], 8⟩, ⟨.int .i64 13, .func (.func 30) #[] #[], 9⟩, ⟨.int .i64 2, .func (.func 31) #[] #[], 10⟩, ⟨.int .i64 3, .func (.func 32) #[] #[], 11⟩, ⟨.int .i64 4, .func (.func 33) #[] #[], 12⟩, ⟨.int .i64 7, .func (.func 34) #[] #[], 13⟩, ⟨.int .i64 8, .func (.func 35) #[] #[], 14⟩, ⟨.int .i64 6, .func (.func 36) #[] #[], 15⟩, ⟨.int .i64 10, .func (.func 37) #[] #[], 16⟩, ⟨.int .i64 11, .func (.func 38) #[] #[], 17⟩, ⟨.int .i64 16, .func (.func 39) #[] #[], 18⟩, ⟨.int .i64 14, .func (.func 40) #[] #[], 19⟩] 20 19 5 _ rfl
  go_enter Tryd.func9, Tryd.ntmps9
  go_wp2_with (first | (rw [hins]; rotate_left; (focus (simp; done)); (focus rfl)))
  have hcho : Cho ((w.alloc (.cells #[.int .i64 19, .int .i64 op2, .int .i64 ty, .int .i64 d, .int .i64 a, .int .i64 b, .int .i64 n, .int .i64 count, .int .i64 step] 23)).alloc (.cells #[.int .i64 19, .int .i64 op2, .int .i64 ty, .int .i64 d, .int .i64 a, .int .i64 b, .int .i64 n, .int .i64 count, .int .i64 step, .slice A hs.length hc, .int .i64 bs, .slice none 0 0] 63)) (w.heap.size + 1) w.heap.size ⟨19, op2, ty, d, a, b, n, count, step⟩ A hs hc bs (.slice none 0 0) [] :=
    ⟨Blk.newAt (by simp), World.ownsRow_nil _ _ _ _, hh.kept (S := fun _ => False) (((Keep.refl w _).alloc _).alloc _) (Nat.le_refl _) (fun _ _ h => h), by simp; omega, by omega, hm⟩
  refine (HDO.out _ _ (hcho.alloc _)).mono ?_
  rintro e w1 ⟨rfl, ov, hl1, hs1⟩
  have hglt := hl1.blk.lt
  have l11 := hl1.blk.cell 11
  simp at l11
  go_wp2_with fail
  go_ret
  refine ⟨ov, rfl, by simpa using hl1.own, ?_⟩
  have hb0 : Below w.heap.size w (((w.alloc (.cells #[.int .i64 19, .int .i64 op2, .int .i64 ty, .int .i64 d, .int .i64 a, .int .i64 b, .int .i64 n, .int .i64 count, .int .i64 step] 23)).alloc (.cells #[.int .i64 19, .int .i64 op2, .int .i64 ty, .int .i64 d, .int .i64 a, .int .i64 b, .int .i64 n, .int .i64 count, .int .i64 step, .slice A hs.length hc, .int .i64 bs, .slice none 0 0] 63)).alloc (.map #[⟨.int .i64 0, .func (.func 21) #[] #[], 0⟩, ⟨.int .i64 18, .func (.func 22) #[] #[], 1⟩, ⟨.int .i64 15, .func (.func 23) #[] #[], 2⟩, ⟨.int .i64 12, .func (.func 24) #[] #[], 3⟩, ⟨.int .i64 17, .func (.func 25) #[] #[], 4⟩, ⟨.int .i64 19, .func (.func 26) #[] #[], 5⟩, ⟨.int .i64 1, .func (.func 27) #[] #[], 6⟩, ⟨.int .i64 5, .func (.func 28) #[] #[], 7⟩, ⟨.int .i64 9, .func (.func 29) #[] #[], 8⟩, ⟨.int .i64 13, .func (.func 30) #[] #[], 9⟩, ⟨.int .i64 2, .func (.func 31) #[] #[], 10⟩, ⟨.int .i64 3, .func (.func 32) #[] #[], 11⟩, ⟨.int .i64 4, .func (.func 33) #[] #[], 12⟩, ⟨.int .i64 7, .func (.func 34) #[] #[], 13⟩, ⟨.int .i64 8, .func (.func 35) #[] #[], 14⟩, ⟨.int .i64 6, .func (.func 36) #[] #[], 15⟩, ⟨.int .i64 10, .func (.func 37) #[] #[], 16⟩, ⟨.int .i64 11, .func (.func 38) #[] #[], 17⟩, ⟨.int .i64 16, .func (.func 39) #[] #[], 18⟩, ⟨.int .i64 14, .func (.func 40) #[] #[], 19⟩] 20)) := (((Below.refl _ _).alloc (Nat.le_refl _) _).alloc (by simp) _).alloc (by simp; omega) _
  exact hb0.trans (hs1.keep.below (by simp; omega) (fun k hk hc => by
    rcases hc with hc | hc
    · omega
    · simp [Value.ownBlock] at hc))

set_option maxRecDepth 100000 in
set_option maxHeartbeats 6400000 in
theorem sel_none (w : World) (i : I9) (A : Option Addr) (hs : List HV) (hc : Nat) (bs : Int) (hh : RepH w w.heap.size A hs) (hm : hs.length < 1000000000000000000) (hop : i.op < 0 ∨ 19 < i.op) :
    Calls Tryd.prog 9 #[.agg #[.int .i64 i.op, .int .i64 i.op2, .int .i64 i.ty, .int .i64 i.d, .int .i64 i.a, .int .i64 i.b, .int .i64 i.n, .int .i64 i.count, .int .i64 i.step], .slice A hs.length hc, .int .i64 bs] w (Selects w []) := by
  obtain ⟨op, op2, ty, d, a, b, n, count, step⟩ := i
  simp only at hop ⊢
  have t0 : (op == 0) = false := by simp; omega
  have t1 : (op == 1) = false := by simp; omega
  have t2 : (op == 2) = false := by simp; omega
  have t3 : (op == 3) = false := by simp; omega
  have t4 : (op == 4) = false := by simp; omega
  have t5 : (op == 5) = false := by simp; omega
  have t6 : (op == 6) = false := by simp; omega
  have t7 : (op == 7) = false := by simp; omega
  have t8 : (op == 8) = false := by simp; omega
  have t9 : (op == 9) = false := by simp; omega
  have t10 : (op == 10) = false := by simp; omega
  have t11 : (op == 11) = false := by simp; omega
  have t12 : (op == 12) = false := by simp; omega
  have t13 : (op == 13) = false := by simp; omega
  have t14 : (op == 14) = false := by simp; omega
  have t15 : (op == 15) = false := by simp; omega
  have t16 : (op == 16) = false := by simp; omega
  have t17 : (op == 17) = false := by simp; omega
  have t18 : (op == 18) = false := by simp; omega
  have t19 : (op == 19) = false := by simp; omega
  have hmm := @run_makeMap Tryd.prog
  have hins := fun W k hk es c n v h => run_mapUpdate_at (P := Tryd.prog) 66 3 64 Tryd.underlying66 .i64 Tryd.underlying3 W k hk es c n v h
  have hfind : Instr.findNow (.int .i64) (.int .i64 op) (#[⟨.int .i64 0, .func (.func 21) #[] #[], 0⟩, ⟨.int .i64 18, .func (.func 22) #[] #[], 1⟩, ⟨.int .i64 15, .func (.func 23) #[] #[], 2⟩, ⟨.int .i64 12, .func (.func 24) #[] #[], 3⟩, ⟨.int .i64 17, .func (.func 25) #[] #[], 4⟩, ⟨.int .i64 19, .func (.func 26) #[] #[], 5⟩, ⟨.int .i64 1, .func (.func 27) #[] #[], 6⟩, ⟨.int .i64 5, .func (.func 28) #[] #[], 7⟩, ⟨.int .i64 9, .func (.func 29) #[] #[], 8⟩, ⟨.int .i64 13, .func (.func 30) #[] #[], 9⟩, ⟨.int .i64 2, .func (.func 31) #[] #[], 10⟩, ⟨.int .i64 3, .func (.func 32) #[] #[], 11⟩, ⟨.int .i64 4, .func (.func 33) #[] #[], 12⟩, ⟨.int .i64 7, .func (.func 34) #[] #[], 13⟩, ⟨.int .i64 8, .func (.func 35) #[] #[], 14⟩, ⟨.int .i64 6, .func (.func 36) #[] #[], 15⟩, ⟨.int .i64 10, .func (.func 37) #[] #[], 16⟩, ⟨.int .i64 11, .func (.func 38) #[] #[], 17⟩, ⟨.int .i64 16, .func (.func 39) #[] #[], 18⟩, ⟨.int .i64 14, .func (.func 40) #[] #[], 19⟩] : Array MapEntry).toList 0 = some none := by simp [Instr.findNow, Instr.sameNow, t0, t1, t2, t3, t4, t5, t6, t7, t8, t9, t10, t11, t12, t13, t14, t15, t16, t17, t18, t19]
  have hlk := fun W k hk => run_lookup_none_at (P := Tryd.prog) 66 3 64 Tryd.underlying66 .i64 Tryd.underlying3 W k hk #[⟨.int .i64 0, .func (.func 21) #[] #[], 0⟩, ⟨.int .i64 18, .func (.func 22) #[] #[], 1⟩, ⟨.int .i64 15, .func (.func 23) #[] #[], 2⟩, ⟨.int .i64 12, .func (.func 24) #[] #[], 3⟩, ⟨.int .i64 17, .func (.func 25) #[] #[], 4⟩, ⟨.int .i64 19, .func (.func 26) #[] #[], 5⟩, ⟨.int .i64 1, .func (.func 27) #[] #[], 6⟩, ⟨.int .i64 5, .func (.func 28) #[] #[], 7⟩, ⟨.int .i64 9, .func (.func 29) #[] #[], 8⟩, ⟨.int .i64 13, .func (.func 30) #[] #[], 9⟩, ⟨.int .i64 2, .func (.func 31) #[] #[], 10⟩, ⟨.int .i64 3, .func (.func 32) #[] #[], 11⟩, ⟨.int .i64 4, .func (.func 33) #[] #[], 12⟩, ⟨.int .i64 7, .func (.func 34) #[] #[], 13⟩, ⟨.int .i64 8, .func (.func 35) #[] #[], 14⟩, ⟨.int .i64 6, .func (.func 36) #[] #[], 15⟩, ⟨.int .i64 10, .func (.func 37) #[] #[], 16⟩, ⟨.int .i64 11, .func (.func 38) #[] #[], 17⟩, ⟨.int .i64 16, .func (.func 39) #[] #[], 18⟩, ⟨.int .i64 14, .func (.func 40) #[] #[], 19⟩] 20 op .nilFunc rfl hfind
  clear hfind
  go_enter Tryd.func9, Tryd.ntmps9
  go_wp2_with (first | (rw [hins]; rotate_left; (focus (simp; done)); (focus rfl)))
  go_ret
  exact ⟨.slice none 0 0, rfl, World.ownsRow_nil _ _ _ _, (((Below.refl _ _).alloc (Nat.le_refl _) _).alloc (by simp) _).alloc (by simp; omega) _⟩

theorem select_any (w : World) (i : I9) (A : Option Addr) (hs : List HV) (hc : Nat) (bs : Int) (hh : RepH w w.heap.size A hs) (hm : hs.length < 1000000000000000000) :
    Calls Tryd.prog 9 #[.agg #[.int .i64 i.op, .int .i64 i.op2, .int .i64 i.ty, .int .i64 i.d, .int .i64 i.a, .int .i64 i.b, .int .i64 i.n, .int .i64 i.count, .int .i64 i.step], .slice A hs.length hc, .int .i64 bs] w (Selects w (selL i hs bs)) := by
  by_cases h0 : i.op = 0
  · have e : selL i hs bs = [⟨0, 0, 0, 0, wrap32 i.n⟩] := by simp [selL, h0]
    rw [e]
    exact sel_0 w i A hs hc bs hh hm h0
  by_cases h1 : i.op = 1
  · have e : selL i hs bs = makeL hs bs i.d ⟨2, 0, 0, 0, wrap32 i.n⟩ := by simp [selL, h1]
    rw [e]
    exact sel_1 w i A hs hc bs hh hm h1
  by_cases h2 : i.op = 2
  · have e : selL i hs bs = moveL i hs bs := by simp [selL, h2]
    rw [e]
    exact sel_2 w i A hs hc bs hh hm h2
  by_cases h3 : i.op = 3
  · have e : selL i hs bs = readL hs bs i.a 6 ++ (readL hs bs i.b 7 ++ makeL hs bs i.d ⟨4, 0, readR hs i.a 6, readR hs i.b 7, wrap32 (wrap64 (wrap64 (i.op2 * 4) + i.ty))⟩) := by simp [selL, h3]
    rw [e]
    exact sel_3 w i A hs hc bs hh hm h3
  by_cases h4 : i.op = 4
  · have e : selL i hs bs = readL hs bs i.a 6 ++ makeL hs bs i.d ⟨5, 0, readR hs i.a 6, 0, wrap32 (wrap64 (wrap64 (i.op2 * 4) + i.ty))⟩ := by simp [selL, h4]
    rw [e]
    exact sel_4 w i A hs hc bs hh hm h4
  by_cases h5 : i.op = 5
  · have e : selL i hs bs = makeL hs bs i.d ⟨6, 0, 0, 0, wrap32 i.n⟩ := by simp [selL, h5]
    rw [e]
    exact sel_5 w i A hs hc bs hh hm h5
  by_cases h6 : i.op = 6
  · have e : selL i hs bs = readL hs bs i.a 6 ++ [⟨7, readR hs i.a 6, 0, 0, wrap32 i.n⟩] := by simp [selL, h6]
    rw [e]
    exact sel_6 w i A hs hc bs hh hm h6
  by_cases h7 : i.op = 7
  · have e : selL i hs bs = readL hs bs i.a 6 ++ makeL hs bs i.d ⟨8, 0, readR hs i.a 6, 0, wrap32 (wrap64 (wrap64 (i.n * 128) + i.count))⟩ := by simp [selL, h7]
    rw [e]
    exact sel_7 w i A hs hc bs hh hm h7
  by_cases h8 : i.op = 8
  · have e : selL i hs bs = readL hs bs i.a 6 ++ (readL hs bs i.b 7 ++ [⟨9, readR hs i.b 7, readR hs i.a 6, 0, wrap32 (wrap64 (wrap64 (i.n * 128) + i.count))⟩]) := by simp [selL, h8]
    rw [e]
    exact sel_8 w i A hs hc bs hh hm h8
  by_cases h9 : i.op = 9
  · have e : selL i hs bs = makeL hs bs i.d ⟨10, 0, 0, 0, wrap32 i.n⟩ := by simp [selL, h9]
    rw [e]
    exact sel_9 w i A hs hc bs hh hm h9
  by_cases h10 : i.op = 10
  · have e : selL i hs bs = readL hs bs i.a 6 ++ [⟨11, readR hs i.a 6, 0, 0, wrap32 i.n⟩] := by simp [selL, h10]
    rw [e]
    exact sel_10 w i A hs hc bs hh hm h10
  by_cases h11 : i.op = 11
  · have e : selL i hs bs = readL hs bs i.a 6 ++ [⟨14, readR hs i.a 6, 0, 0, wrap32 i.n⟩] := by simp [selL, h11]
    rw [e]
    exact sel_11 w i A hs hc bs hh hm h11
  by_cases h12 : i.op = 12
  · have e : selL i hs bs = [⟨15, 0, 0, 0, wrap32 i.n⟩] := by simp [selL, h12]
    rw [e]
    exact sel_12 w i A hs hc bs hh hm h12
  by_cases h13 : i.op = 13
  · have e : selL i hs bs = makeL hs bs i.d ⟨19, 0, 0, 0, 0⟩ := by simp [selL, h13]
    rw [e]
    exact sel_13 w i A hs hc bs hh hm h13
  by_cases h14 : i.op = 14
  · have e : selL i hs bs = readL hs bs i.a 6 ++ [⟨17, readR hs i.a 6, 0, 0, wrap32 i.n⟩] := by simp [selL, h14]
    rw [e]
    exact sel_14 w i A hs hc bs hh hm h14
  by_cases h15 : i.op = 15
  · have e : selL i hs bs = [⟨20, 0, 0, 0, wrap32 i.n⟩] := by simp [selL, h15]
    rw [e]
    exact sel_15 w i A hs hc bs hh hm h15
  by_cases h16 : i.op = 16
  · have e : selL i hs bs = readL hs bs i.a 6 ++ [⟨21, readR hs i.a 6, 0, 0, wrap32 i.n⟩] := by simp [selL, h16]
    rw [e]
    exact sel_16 w i A hs hc bs hh hm h16
  by_cases h17 : i.op = 17
  · have e : selL i hs bs = [⟨22, 0, 0, 0, wrap32 i.n⟩] := by simp [selL, h17]
    rw [e]
    exact sel_17 w i A hs hc bs hh hm h17
  by_cases h18 : i.op = 18
  · have e : selL i hs bs = [⟨1, 0, 0, 0, wrap32 i.n⟩] := by simp [selL, h18]
    rw [e]
    exact sel_18 w i A hs hc bs hh hm h18
  by_cases h19 : i.op = 19
  · have e : selL i hs bs = [⟨23, 0, 0, 0, wrap32 i.n⟩] := by simp [selL, h19]
    rw [e]
    exact sel_19 w i A hs hc bs hh hm h19
  have e : selL i hs bs = [] := by simp [selL, h0, h1, h2, h3, h4, h5, h6, h7, h8, h9, h10, h11, h12, h13, h14, h15, h16, h17, h18, h19]
  rw [e]
  exact sel_none w i A hs hc bs hh hm (by omega)
end Go.Proofs.YthkiajbgdamjgaaDoor

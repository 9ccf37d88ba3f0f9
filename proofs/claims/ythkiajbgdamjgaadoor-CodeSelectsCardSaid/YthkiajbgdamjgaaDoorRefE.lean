/- The reference's Select, of whatever instruction: it chooses what Select of package code does. Conditions: fewer than 10^18 homes. -/
import Derived.Test.YthkiajbgdamjgaaDoorRefD
import Derived.Test.YthkiajbgdamjgaaDoorCodE
namespace Go.Proofs.YthkiajbgdamjgaaDoor
set_option linter.unusedVariables false
open Go.RowKit
attribute [local irreducible] Blk

theorem fin_below {w W w' : World} {g : Nat} {ov' : Value} (h : CS W w' g (.slice none 0 0) ov') (hb : Below w.heap.size w W) (hg : w.heap.size ≤ g) : Below w.heap.size w w' :=
  hb.trans (h.keep.below hb.size (fun k hk hc => by
    rcases hc with rfl | hc
    · omega
    · simp [Value.ownBlock] at hc))

set_option maxRecDepth 100000 in
set_option maxHeartbeats 6400000 in
theorem bare_0 (w : World) : Calls Tryd.prog 42 #[.int .i64 0] w fun e w' => e = .returned (.int .i64 0) ∧ w = w' := by
  go_enter Tryd.func42, Tryd.ntmps42
  go_wp2
  go_ret
  exact ⟨rfl, rfl⟩

set_option maxRecDepth 100000 in
set_option maxHeartbeats 6400000 in
theorem bare_18 (w : World) : Calls Tryd.prog 42 #[.int .i64 18] w fun e w' => e = .returned (.int .i64 1) ∧ w = w' := by
  go_enter Tryd.func42, Tryd.ntmps42
  go_wp2
  go_ret
  exact ⟨rfl, rfl⟩

set_option maxRecDepth 100000 in
set_option maxHeartbeats 6400000 in
theorem bare_15 (w : World) : Calls Tryd.prog 42 #[.int .i64 15] w fun e w' => e = .returned (.int .i64 20) ∧ w = w' := by
  go_enter Tryd.func42, Tryd.ntmps42
  go_wp2
  go_ret
  exact ⟨rfl, rfl⟩

set_option maxRecDepth 100000 in
set_option maxHeartbeats 6400000 in
theorem bare_12 (w : World) : Calls Tryd.prog 42 #[.int .i64 12] w fun e w' => e = .returned (.int .i64 15) ∧ w = w' := by
  go_enter Tryd.func42, Tryd.ntmps42
  go_wp2
  go_ret
  exact ⟨rfl, rfl⟩

set_option maxRecDepth 100000 in
set_option maxHeartbeats 6400000 in
theorem bare_17 (w : World) : Calls Tryd.prog 42 #[.int .i64 17] w fun e w' => e = .returned (.int .i64 22) ∧ w = w' := by
  go_enter Tryd.func42, Tryd.ntmps42
  go_wp2
  go_ret
  exact ⟨rfl, rfl⟩

set_option maxRecDepth 100000 in
set_option maxHeartbeats 6400000 in
theorem bare_19 (w : World) : Calls Tryd.prog 42 #[.int .i64 19] w fun e w' => e = .returned (.int .i64 23) ∧ w = w' := by
  go_enter Tryd.func42, Tryd.ntmps42
  go_wp2
  go_ret
  exact ⟨rfl, rfl⟩

set_option maxRecDepth 100000 in
set_option maxHeartbeats 6400000 in
theorem rsel_0 (w : World) (i : I9) (A : Option Addr) (hs : List HV) (hc : Nat) (bs : Int) (hh : RepH w w.heap.size A hs) (hm : hs.length < 1000000000000000000) (hop : i.op = 0) :
    Calls Tryd.prog 10 #[.agg #[.int .i64 i.op, .int .i64 i.op2, .int .i64 i.ty, .int .i64 i.d, .int .i64 i.a, .int .i64 i.b, .int .i64 i.n, .int .i64 i.count, .int .i64 i.step], .slice A hs.length hc, .int .i64 bs] w (Selects w ([⟨0, 0, 0, 0, wrap32 i.n⟩])) := by
  obtain ⟨op, op2, ty, d, a, b, n, count, step⟩ := i
  simp only at hop
  subst hop
  have hbox : Blk ((w.alloc (.cells #[.int .i64 0, .int .i64 op2, .int .i64 ty, .int .i64 d, .int .i64 a, .int .i64 b, .int .i64 n, .int .i64 count, .int .i64 step] 23)).alloc (.cells #[.slice A hs.length hc, .int .i64 bs, .slice none 0 0] 69)) w.heap.size 23 #[.int .i64 0, .int .i64 op2, .int .i64 ty, .int .i64 d, .int .i64 a, .int .i64 b, .int .i64 n, .int .i64 count, .int .i64 step] := (Blk.newAt rfl).alloc _
  have hcho : RCho ((w.alloc (.cells #[.int .i64 0, .int .i64 op2, .int .i64 ty, .int .i64 d, .int .i64 a, .int .i64 b, .int .i64 n, .int .i64 count, .int .i64 step] 23)).alloc (.cells #[.slice A hs.length hc, .int .i64 bs, .slice none 0 0] 69)) (w.heap.size + 1) w.heap.size A hs hc bs (.slice none 0 0) [] :=
    ⟨Blk.newAt (by simp), World.ownsRow_nil _ _ _ _, hh.kept (S := fun _ => False) (((Keep.refl w _).alloc _).alloc _) (Nat.le_refl _) (fun _ _ h => h), by simp; omega, by omega, hm⟩
  have hb0 : Below w.heap.size w ((w.alloc (.cells #[.int .i64 0, .int .i64 op2, .int .i64 ty, .int .i64 d, .int .i64 a, .int .i64 b, .int .i64 n, .int .i64 count, .int .i64 step] 23)).alloc (.cells #[.slice A hs.length hc, .int .i64 bs, .slice none 0 0] 69)) := ((Below.refl _ _).alloc (Nat.le_refl _) _).alloc (by simp) _
  go_enter Tryd.func10, Tryd.ntmps10
  go_wp2_with fail
  go_region_held3 (fun w' => w'.cell? ⟨w.heap.size, 0, none⟩ = some (.int .i64 0) ∧ w'.cell? ⟨w.heap.size, 6, none⟩ = some (.int .i64 n))
    (first
      | (refine ⟨cell_of_blk (by repeat (first | (with_reducible assumption) | (refine Blk.newAt ?_; simp; done) | (refine Blk.newAt ?_; rfl) | apply Blk.alloc | apply Blk.drew | apply Blk.drewN)) (by rfl), cell_of_blk (by repeat (first | (with_reducible assumption) | (refine Blk.newAt ?_; simp; done) | (refine Blk.newAt ?_; rfl) | apply Blk.alloc | apply Blk.drew | apply Blk.drewN)) (by rfl)⟩)
      | (refine ⟨cell_of_blk hbox1 (by rfl), cell_of_blk hbox1 (by rfl)⟩))
    (first
      | (go_at_call 42; refine (bare_0 _).mono ?_; rintro e w1 ⟨rfl, rfl⟩)
      | (go_at_call 41; refine (radd_any _ (w.heap.size + 1) w.heap.size A hs hc bs (.slice none 0 0) [] 0 0 0 0 n (by repeat (first | with_reducible exact hcho | apply RCho.drewN | apply RCho.drew | apply RCho.alloc)) (by simp)).mono ?_; rintro e w1 ⟨rfl, ov1, hl1, hs1⟩; have hbox1 := hs1.rblk (by repeat (first | with_reducible exact hcho | apply RCho.drewN | apply RCho.drew | apply RCho.alloc)) (k := w.heap.size) (t := 23) (cs := #[.int .i64 0, .int .i64 op2, .int .i64 ty, .int .i64 d, .int .i64 a, .int .i64 b, .int .i64 n, .int .i64 count, .int .i64 step]) (by repeat (first | (with_reducible assumption) | (refine Blk.newAt ?_; simp; done) | (refine Blk.newAt ?_; rfl) | apply Blk.alloc | apply Blk.drew | apply Blk.drewN)) (by decide) (.inl (by decide))))
  all_goals
    have y2 := hl1.blk.cell 2
    have hglt := hl1.blk.lt
    simp at y2
    go_wp2_with fail
    go_ret
    rw [show IntKind.u8.wrap 0 = 0 from by decide] at hl1
    exact ⟨ov1, rfl, by simpa using hl1.own, fin_below (CS.trans (by repeat (first  | exact CS.refl _ _ _ | apply CS.drewN | apply CS.drew | apply CS.alloc)) hs1) hb0 (by omega)⟩

set_option maxRecDepth 100000 in
set_option maxHeartbeats 6400000 in
theorem rsel_1 (w : World) (i : I9) (A : Option Addr) (hs : List HV) (hc : Nat) (bs : Int) (hh : RepH w w.heap.size A hs) (hm : hs.length < 1000000000000000000) (hop : i.op = 1) :
    Calls Tryd.prog 10 #[.agg #[.int .i64 i.op, .int .i64 i.op2, .int .i64 i.ty, .int .i64 i.d, .int .i64 i.a, .int .i64 i.b, .int .i64 i.n, .int .i64 i.count, .int .i64 i.step], .slice A hs.length hc, .int .i64 bs] w (Selects w (makeL hs bs i.d ⟨2, 0, 0, 0, wrap32 i.n⟩)) := by
  obtain ⟨op, op2, ty, d, a, b, n, count, step⟩ := i
  simp only at hop
  subst hop
  have hbox : Blk ((w.alloc (.cells #[.int .i64 1, .int .i64 op2, .int .i64 ty, .int .i64 d, .int .i64 a, .int .i64 b, .int .i64 n, .int .i64 count, .int .i64 step] 23)).alloc (.cells #[.slice A hs.length hc, .int .i64 bs, .slice none 0 0] 69)) w.heap.size 23 #[.int .i64 1, .int .i64 op2, .int .i64 ty, .int .i64 d, .int .i64 a, .int .i64 b, .int .i64 n, .int .i64 count, .int .i64 step] := (Blk.newAt rfl).alloc _
  have hcho : RCho ((w.alloc (.cells #[.int .i64 1, .int .i64 op2, .int .i64 ty, .int .i64 d, .int .i64 a, .int .i64 b, .int .i64 n, .int .i64 count, .int .i64 step] 23)).alloc (.cells #[.slice A hs.length hc, .int .i64 bs, .slice none 0 0] 69)) (w.heap.size + 1) w.heap.size A hs hc bs (.slice none 0 0) [] :=
    ⟨Blk.newAt (by simp), World.ownsRow_nil _ _ _ _, hh.kept (S := fun _ => False) (((Keep.refl w _).alloc _).alloc _) (Nat.le_refl _) (fun _ _ h => h), by simp; omega, by omega, hm⟩
  have hb0 : Below w.heap.size w ((w.alloc (.cells #[.int .i64 1, .int .i64 op2, .int .i64 ty, .int .i64 d, .int .i64 a, .int .i64 b, .int .i64 n, .int .i64 count, .int .i64 step] 23)).alloc (.cells #[.slice A hs.length hc, .int .i64 bs, .slice none 0 0] 69)) := ((Below.refl _ _).alloc (Nat.le_refl _) _).alloc (by simp) _
  go_enter Tryd.func10, Tryd.ntmps10
  go_wp2_with fail
  refine (rmake_any _ (w.heap.size + 1) w.heap.size A hs hc bs (.slice none 0 0) [] d 2 0 0 n hcho (by simp)).mono ?_
  rintro e w1 ⟨rfl, ov1, hl1, hs1⟩
  have y2 := hl1.blk.cell 2
  have hglt := hl1.blk.lt
  simp at y2
  go_wp2_with fail
  go_ret
  rw [show IntKind.u8.wrap 2 = 2 from by decide] at hl1
  exact ⟨ov1, rfl, by simpa using hl1.own, fin_below (hs1) hb0 (by omega)⟩

set_option maxRecDepth 100000 in
set_option maxHeartbeats 6400000 in
theorem rsel_2 (w : World) (i : I9) (A : Option Addr) (hs : List HV) (hc : Nat) (bs : Int) (hh : RepH w w.heap.size A hs) (hm : hs.length < 1000000000000000000) (hop : i.op = 2) :
    Calls Tryd.prog 10 #[.agg #[.int .i64 i.op, .int .i64 i.op2, .int .i64 i.ty, .int .i64 i.d, .int .i64 i.a, .int .i64 i.b, .int .i64 i.n, .int .i64 i.count, .int .i64 i.step], .slice A hs.length hc, .int .i64 bs] w (Selects w (moveL i hs bs)) := by
  obtain ⟨op, op2, ty, d, a, b, n, count, step⟩ := i
  simp only at hop
  subst hop
  have hbox : Blk ((w.alloc (.cells #[.int .i64 2, .int .i64 op2, .int .i64 ty, .int .i64 d, .int .i64 a, .int .i64 b, .int .i64 n, .int .i64 count, .int .i64 step] 23)).alloc (.cells #[.slice A hs.length hc, .int .i64 bs, .slice none 0 0] 69)) w.heap.size 23 #[.int .i64 2, .int .i64 op2, .int .i64 ty, .int .i64 d, .int .i64 a, .int .i64 b, .int .i64 n, .int .i64 count, .int .i64 step] := (Blk.newAt rfl).alloc _
  have hcho : RCho ((w.alloc (.cells #[.int .i64 2, .int .i64 op2, .int .i64 ty, .int .i64 d, .int .i64 a, .int .i64 b, .int .i64 n, .int .i64 count, .int .i64 step] 23)).alloc (.cells #[.slice A hs.length hc, .int .i64 bs, .slice none 0 0] 69)) (w.heap.size + 1) w.heap.size A hs hc bs (.slice none 0 0) [] :=
    ⟨Blk.newAt (by simp), World.ownsRow_nil _ _ _ _, hh.kept (S := fun _ => False) (((Keep.refl w _).alloc _).alloc _) (Nat.le_refl _) (fun _ _ h => h), by simp; omega, by omega, hm⟩
  have hb0 : Below w.heap.size w ((w.alloc (.cells #[.int .i64 2, .int .i64 op2, .int .i64 ty, .int .i64 d, .int .i64 a, .int .i64 b, .int .i64 n, .int .i64 count, .int .i64 step] 23)).alloc (.cells #[.slice A hs.length hc, .int .i64 bs, .slice none 0 0] 69)) := ((Below.refl _ _).alloc (Nat.le_refl _) _).alloc (by simp) _
  go_enter Tryd.func10, Tryd.ntmps10
  go_wp2_with fail
  refine (rmove_any _ (w.heap.size + 1) w.heap.size A hs hc bs (.slice none 0 0) [] ⟨2, op2, ty, d, a, b, n, count, step⟩ hcho (by simp)).mono ?_
  rintro e w1 ⟨rfl, ov1, hl1, hs1⟩
  have y2 := hl1.blk.cell 2
  have hglt := hl1.blk.lt
  simp at y2
  go_wp2_with fail
  go_ret
  exact ⟨ov1, rfl, by simpa using hl1.own, fin_below (hs1) hb0 (by omega)⟩

set_option maxRecDepth 100000 in
set_option maxHeartbeats 6400000 in
theorem rsel_3 (w : World) (i : I9) (A : Option Addr) (hs : List HV) (hc : Nat) (bs : Int) (hh : RepH w w.heap.size A hs) (hm : hs.length < 1000000000000000000) (hop : i.op = 3) :
    Calls Tryd.prog 10 #[.agg #[.int .i64 i.op, .int .i64 i.op2, .int .i64 i.ty, .int .i64 i.d, .int .i64 i.a, .int .i64 i.b, .int .i64 i.n, .int .i64 i.count, .int .i64 i.step], .slice A hs.length hc, .int .i64 bs] w (Selects w (readL hs bs i.a 6 ++ (readL hs bs i.b 7 ++ makeL hs bs i.d ⟨4, 0, readR hs i.a 6, readR hs i.b 7, wrap32 (wrap64 (wrap64 (i.op2 * 4) + i.ty))⟩))) := by
  obtain ⟨op, op2, ty, d, a, b, n, count, step⟩ := i
  simp only at hop
  subst hop
  have hbox : Blk ((w.alloc (.cells #[.int .i64 3, .int .i64 op2, .int .i64 ty, .int .i64 d, .int .i64 a, .int .i64 b, .int .i64 n, .int .i64 count, .int .i64 step] 23)).alloc (.cells #[.slice A hs.length hc, .int .i64 bs, .slice none 0 0] 69)) w.heap.size 23 #[.int .i64 3, .int .i64 op2, .int .i64 ty, .int .i64 d, .int .i64 a, .int .i64 b, .int .i64 n, .int .i64 count, .int .i64 step] := (Blk.newAt rfl).alloc _
  have hcho : RCho ((w.alloc (.cells #[.int .i64 3, .int .i64 op2, .int .i64 ty, .int .i64 d, .int .i64 a, .int .i64 b, .int .i64 n, .int .i64 count, .int .i64 step] 23)).alloc (.cells #[.slice A hs.length hc, .int .i64 bs, .slice none 0 0] 69)) (w.heap.size + 1) w.heap.size A hs hc bs (.slice none 0 0) [] :=
    ⟨Blk.newAt (by simp), World.ownsRow_nil _ _ _ _, hh.kept (S := fun _ => False) (((Keep.refl w _).alloc _).alloc _) (Nat.le_refl _) (fun _ _ h => h), by simp; omega, by omega, hm⟩
  have hb0 : Below w.heap.size w ((w.alloc (.cells #[.int .i64 3, .int .i64 op2, .int .i64 ty, .int .i64 d, .int .i64 a, .int .i64 b, .int .i64 n, .int .i64 count, .int .i64 step] 23)).alloc (.cells #[.slice A hs.length hc, .int .i64 bs, .slice none 0 0] 69)) := ((Below.refl _ _).alloc (Nat.le_refl _) _).alloc (by simp) _
  go_enter Tryd.func10, Tryd.ntmps10
  go_wp2_with fail
  have hra := readL_len hs bs a 6
  have hrb := readL_len hs bs b 7
  refine (rread_any _ (w.heap.size + 1) w.heap.size A hs hc bs (.slice none 0 0) [] a 6 hcho (by simp)).mono ?_
  rintro e w1 ⟨rfl, ov1, hl1, hs1⟩
  have hbox1 := hs1.rblk (by repeat (first | with_reducible exact hcho | apply RCho.drewN | apply RCho.drew | apply RCho.alloc)) (k := w.heap.size) (t := 23) (cs := #[.int .i64 3, .int .i64 op2, .int .i64 ty, .int .i64 d, .int .i64 a, .int .i64 b, .int .i64 n, .int .i64 count, .int .i64 step]) (by repeat (first | (with_reducible assumption) | (refine Blk.newAt ?_; simp; done) | (refine Blk.newAt ?_; rfl) | apply Blk.alloc | apply Blk.drew | apply Blk.drewN)) (by decide) (.inl (by decide))
  have x3 := hbox1.cell 3
  have x5 := hbox1.cell 5
  simp at x3 x5
  have hblt := hbox1.lt
  have hglt1 := hl1.blk.lt
  go_wp2_with fail
  refine (rread_any _ (w.heap.size + 1) w.heap.size A hs hc bs ov1 _ b 7 hl1 (by simp; omega)).mono ?_
  rintro e w2 ⟨rfl, ov2, hl2, hs2⟩
  have hbox2 := hs2.rblk (by repeat (first | with_reducible exact hl1 | apply RCho.drewN | apply RCho.drew | apply RCho.alloc)) (k := w.heap.size) (t := 23) (cs := #[.int .i64 3, .int .i64 op2, .int .i64 ty, .int .i64 d, .int .i64 a, .int .i64 b, .int .i64 n, .int .i64 count, .int .i64 step]) (by repeat (first | (with_reducible assumption) | (refine Blk.newAt ?_; simp; done) | (refine Blk.newAt ?_; rfl) | apply Blk.alloc | apply Blk.drew | apply Blk.drewN)) (by decide) (.inl (by decide))
  clear x3 x5 hblt
  have x3 := hbox2.cell 3
  simp at x3
  have hblt := hbox2.lt
  have hglt2 := hl2.blk.lt
  go_wp2_with fail
  refine (rmake_any _ (w.heap.size + 1) w.heap.size A hs hc bs ov2 _ d 4 (readR hs a 6) (readR hs b 7) (wrap64 (wrap64 (4 * op2) + ty)) hl2 (by simp; omega)).mono ?_
  rintro e w3 ⟨rfl, ov3, hl3, hs3⟩
  have y2 := hl3.blk.cell 2
  have hglt := hl3.blk.lt
  simp at y2
  go_wp2_with fail
  go_ret
  rw [show IntKind.u8.wrap 4 = 4 from by decide, Int.mul_comm 4 op2] at hl3
  exact ⟨ov3, rfl, by simpa using hl3.own, fin_below (CS.trans (CS.trans hs1 hs2) hs3) hb0 (by omega)⟩

set_option maxRecDepth 100000 in
set_option maxHeartbeats 6400000 in
theorem rsel_4 (w : World) (i : I9) (A : Option Addr) (hs : List HV) (hc : Nat) (bs : Int) (hh : RepH w w.heap.size A hs) (hm : hs.length < 1000000000000000000) (hop : i.op = 4) :
    Calls Tryd.prog 10 #[.agg #[.int .i64 i.op, .int .i64 i.op2, .int .i64 i.ty, .int .i64 i.d, .int .i64 i.a, .int .i64 i.b, .int .i64 i.n, .int .i64 i.count, .int .i64 i.step], .slice A hs.length hc, .int .i64 bs] w (Selects w (readL hs bs i.a 6 ++ makeL hs bs i.d ⟨5, 0, readR hs i.a 6, 0, wrap32 (wrap64 (wrap64 (i.op2 * 4) + i.ty))⟩)) := by
  obtain ⟨op, op2, ty, d, a, b, n, count, step⟩ := i
  simp only at hop
  subst hop
  have hbox : Blk ((w.alloc (.cells #[.int .i64 4, .int .i64 op2, .int .i64 ty, .int .i64 d, .int .i64 a, .int .i64 b, .int .i64 n, .int .i64 count, .int .i64 step] 23)).alloc (.cells #[.slice A hs.length hc, .int .i64 bs, .slice none 0 0] 69)) w.heap.size 23 #[.int .i64 4, .int .i64 op2, .int .i64 ty, .int .i64 d, .int .i64 a, .int .i64 b, .int .i64 n, .int .i64 count, .int .i64 step] := (Blk.newAt rfl).alloc _
  have hcho : RCho ((w.alloc (.cells #[.int .i64 4, .int .i64 op2, .int .i64 ty, .int .i64 d, .int .i64 a, .int .i64 b, .int .i64 n, .int .i64 count, .int .i64 step] 23)).alloc (.cells #[.slice A hs.length hc, .int .i64 bs, .slice none 0 0] 69)) (w.heap.size + 1) w.heap.size A hs hc bs (.slice none 0 0) [] :=
    ⟨Blk.newAt (by simp), World.ownsRow_nil _ _ _ _, hh.kept (S := fun _ => False) (((Keep.refl w _).alloc _).alloc _) (Nat.le_refl _) (fun _ _ h => h), by simp; omega, by omega, hm⟩
  have hb0 : Below w.heap.size w ((w.alloc (.cells #[.int .i64 4, .int .i64 op2, .int .i64 ty, .int .i64 d, .int .i64 a, .int .i64 b, .int .i64 n, .int .i64 count, .int .i64 step] 23)).alloc (.cells #[.slice A hs.length hc, .int .i64 bs, .slice none 0 0] 69)) := ((Below.refl _ _).alloc (Nat.le_refl _) _).alloc (by simp) _
  go_enter Tryd.func10, Tryd.ntmps10
  go_wp2_with fail
  have hra := readL_len hs bs a 6
  have hrb := readL_len hs bs b 7
  refine (rread_any _ (w.heap.size + 1) w.heap.size A hs hc bs (.slice none 0 0) [] a 6 hcho (by simp)).mono ?_
  rintro e w1 ⟨rfl, ov1, hl1, hs1⟩
  have hbox1 := hs1.rblk (by repeat (first | with_reducible exact hcho | apply RCho.drewN | apply RCho.drew | apply RCho.alloc)) (k := w.heap.size) (t := 23) (cs := #[.int .i64 4, .int .i64 op2, .int .i64 ty, .int .i64 d, .int .i64 a, .int .i64 b, .int .i64 n, .int .i64 count, .int .i64 step]) (by repeat (first | (with_reducible assumption) | (refine Blk.newAt ?_; simp; done) | (refine Blk.newAt ?_; rfl) | apply Blk.alloc | apply Blk.drew | apply Blk.drewN)) (by decide) (.inl (by decide))
  have x3 := hbox1.cell 3
  simp at x3
  have hblt := hbox1.lt
  have hglt1 := hl1.blk.lt
  go_wp2_with fail
  refine (rmake_any _ (w.heap.size + 1) w.heap.size A hs hc bs ov1 _ d 5 (readR hs a 6) 0 (wrap64 (wrap64 (4 * op2) + ty)) hl1 (by simp; omega)).mono ?_
  rintro e w2 ⟨rfl, ov2, hl2, hs2⟩
  have y2 := hl2.blk.cell 2
  have hglt := hl2.blk.lt
  simp at y2
  go_wp2_with fail
  go_ret
  rw [show IntKind.u8.wrap 5 = 5 from by decide, Int.mul_comm 4 op2] at hl2
  exact ⟨ov2, rfl, by simpa using hl2.own, fin_below (CS.trans hs1 hs2) hb0 (by omega)⟩

set_option maxRecDepth 100000 in
set_option maxHeartbeats 6400000 in
theorem rsel_5 (w : World) (i : I9) (A : Option Addr) (hs : List HV) (hc : Nat) (bs : Int) (hh : RepH w w.heap.size A hs) (hm : hs.length < 1000000000000000000) (hop : i.op = 5) :
    Calls Tryd.prog 10 #[.agg #[.int .i64 i.op, .int .i64 i.op2, .int .i64 i.ty, .int .i64 i.d, .int .i64 i.a, .int .i64 i.b, .int .i64 i.n, .int .i64 i.count, .int .i64 i.step], .slice A hs.length hc, .int .i64 bs] w (Selects w (makeL hs bs i.d ⟨6, 0, 0, 0, wrap32 i.n⟩)) := by
  obtain ⟨op, op2, ty, d, a, b, n, count, step⟩ := i
  simp only at hop
  subst hop
  have hbox : Blk ((w.alloc (.cells #[.int .i64 5, .int .i64 op2, .int .i64 ty, .int .i64 d, .int .i64 a, .int .i64 b, .int .i64 n, .int .i64 count, .int .i64 step] 23)).alloc (.cells #[.slice A hs.length hc, .int .i64 bs, .slice none 0 0] 69)) w.heap.size 23 #[.int .i64 5, .int .i64 op2, .int .i64 ty, .int .i64 d, .int .i64 a, .int .i64 b, .int .i64 n, .int .i64 count, .int .i64 step] := (Blk.newAt rfl).alloc _
  have hcho : RCho ((w.alloc (.cells #[.int .i64 5, .int .i64 op2, .int .i64 ty, .int .i64 d, .int .i64 a, .int .i64 b, .int .i64 n, .int .i64 count, .int .i64 step] 23)).alloc (.cells #[.slice A hs.length hc, .int .i64 bs, .slice none 0 0] 69)) (w.heap.size + 1) w.heap.size A hs hc bs (.slice none 0 0) [] :=
    ⟨Blk.newAt (by simp), World.ownsRow_nil _ _ _ _, hh.kept (S := fun _ => False) (((Keep.refl w _).alloc _).alloc _) (Nat.le_refl _) (fun _ _ h => h), by simp; omega, by omega, hm⟩
  have hb0 : Below w.heap.size w ((w.alloc (.cells #[.int .i64 5, .int .i64 op2, .int .i64 ty, .int .i64 d, .int .i64 a, .int .i64 b, .int .i64 n, .int .i64 count, .int .i64 step] 23)).alloc (.cells #[.slice A hs.length hc, .int .i64 bs, .slice none 0 0] 69)) := ((Below.refl _ _).alloc (Nat.le_refl _) _).alloc (by simp) _
  go_enter Tryd.func10, Tryd.ntmps10
  go_wp2_with fail
  refine (rmake_any _ (w.heap.size + 1) w.heap.size A hs hc bs (.slice none 0 0) [] d 6 0 0 n hcho (by simp)).mono ?_
  rintro e w1 ⟨rfl, ov1, hl1, hs1⟩
  have y2 := hl1.blk.cell 2
  have hglt := hl1.blk.lt
  simp at y2
  go_wp2_with fail
  go_ret
  rw [show IntKind.u8.wrap 6 = 6 from by decide] at hl1
  exact ⟨ov1, rfl, by simpa using hl1.own, fin_below (hs1) hb0 (by omega)⟩

set_option maxRecDepth 100000 in
set_option maxHeartbeats 6400000 in
theorem rsel_6 (w : World) (i : I9) (A : Option Addr) (hs : List HV) (hc : Nat) (bs : Int) (hh : RepH w w.heap.size A hs) (hm : hs.length < 1000000000000000000) (hop : i.op = 6) :
    Calls Tryd.prog 10 #[.agg #[.int .i64 i.op, .int .i64 i.op2, .int .i64 i.ty, .int .i64 i.d, .int .i64 i.a, .int .i64 i.b, .int .i64 i.n, .int .i64 i.count, .int .i64 i.step], .slice A hs.length hc, .int .i64 bs] w (Selects w (readL hs bs i.a 6 ++ [⟨7, readR hs i.a 6, 0, 0, wrap32 i.n⟩])) := by
  obtain ⟨op, op2, ty, d, a, b, n, count, step⟩ := i
  simp only at hop
  subst hop
  have hbox : Blk ((w.alloc (.cells #[.int .i64 6, .int .i64 op2, .int .i64 ty, .int .i64 d, .int .i64 a, .int .i64 b, .int .i64 n, .int .i64 count, .int .i64 step] 23)).alloc (.cells #[.slice A hs.length hc, .int .i64 bs, .slice none 0 0] 69)) w.heap.size 23 #[.int .i64 6, .int .i64 op2, .int .i64 ty, .int .i64 d, .int .i64 a, .int .i64 b, .int .i64 n, .int .i64 count, .int .i64 step] := (Blk.newAt rfl).alloc _
  have hcho : RCho ((w.alloc (.cells #[.int .i64 6, .int .i64 op2, .int .i64 ty, .int .i64 d, .int .i64 a, .int .i64 b, .int .i64 n, .int .i64 count, .int .i64 step] 23)).alloc (.cells #[.slice A hs.length hc, .int .i64 bs, .slice none 0 0] 69)) (w.heap.size + 1) w.heap.size A hs hc bs (.slice none 0 0) [] :=
    ⟨Blk.newAt (by simp), World.ownsRow_nil _ _ _ _, hh.kept (S := fun _ => False) (((Keep.refl w _).alloc _).alloc _) (Nat.le_refl _) (fun _ _ h => h), by simp; omega, by omega, hm⟩
  have hb0 : Below w.heap.size w ((w.alloc (.cells #[.int .i64 6, .int .i64 op2, .int .i64 ty, .int .i64 d, .int .i64 a, .int .i64 b, .int .i64 n, .int .i64 count, .int .i64 step] 23)).alloc (.cells #[.slice A hs.length hc, .int .i64 bs, .slice none 0 0] 69)) := ((Below.refl _ _).alloc (Nat.le_refl _) _).alloc (by simp) _
  go_enter Tryd.func10, Tryd.ntmps10
  go_wp2_with fail
  have hra := readL_len hs bs a 6
  have hrb := readL_len hs bs b 7
  go_region_held3 (fun w' => w'.cell? ⟨w.heap.size, 4, none⟩ = some (.int .i64 a) ∧ w'.cell? ⟨w.heap.size, 6, none⟩ = some (.int .i64 n))
    (first
      | (refine ⟨cell_of_blk hbox2 (by rfl), cell_of_blk hbox2 (by rfl)⟩)
      | (refine ⟨cell_of_blk hbox1 (by rfl), cell_of_blk hbox1 (by rfl)⟩)
      | (refine ⟨cell_of_blk (by repeat (first | (with_reducible assumption) | (refine Blk.newAt ?_; simp; done) | (refine Blk.newAt ?_; rfl) | apply Blk.alloc | apply Blk.drew | apply Blk.drewN)) (by rfl), cell_of_blk (by repeat (first | (with_reducible assumption) | (refine Blk.newAt ?_; simp; done) | (refine Blk.newAt ?_; rfl) | apply Blk.alloc | apply Blk.drew | apply Blk.drewN)) (by rfl)⟩))
    (first
      | (go_at_call 45; refine (rread_any _ (w.heap.size + 1) w.heap.size A hs hc bs (.slice none 0 0) [] a 6 (by repeat (first | with_reducible exact hcho | apply RCho.drewN | apply RCho.drew | apply RCho.alloc)) (by simp)).mono ?_; rintro e w1 ⟨rfl, ov1, hl1, hs1⟩; have hbox1 := hs1.rblk (by repeat (first | with_reducible exact hcho | apply RCho.drewN | apply RCho.drew | apply RCho.alloc)) (k := w.heap.size) (t := 23) (cs := #[.int .i64 6, .int .i64 op2, .int .i64 ty, .int .i64 d, .int .i64 a, .int .i64 b, .int .i64 n, .int .i64 count, .int .i64 step]) (by repeat (first | (with_reducible assumption) | (refine Blk.newAt ?_; simp; done) | (refine Blk.newAt ?_; rfl) | apply Blk.alloc | apply Blk.drew | apply Blk.drewN)) (by decide) (.inl (by decide)))
      | (go_at_call 41; refine (radd_any _ (w.heap.size + 1) w.heap.size A hs hc bs ov1 _ 7 (readR hs a 6) 0 0 n hl1 (by simp; omega)).mono ?_; rintro e w2 ⟨rfl, ov2, hl2, hs2⟩; have hbox2 := hs2.rblk hl1 hbox1 (by decide) (.inl (by decide))))
  all_goals
    have y2 := hl2.blk.cell 2
    have hglt := hl2.blk.lt
    simp at y2
    go_wp2_with fail
    go_ret
    rw [show IntKind.u8.wrap 7 = 7 from by decide] at hl2
    exact ⟨ov2, rfl, by simpa using hl2.own, fin_below (CS.trans (CS.trans (by repeat (first  | exact CS.refl _ _ _ | apply CS.drewN | apply CS.drew | apply CS.alloc)) hs1) hs2) hb0 (by omega)⟩

set_option maxRecDepth 100000 in
set_option maxHeartbeats 6400000 in
theorem rsel_7 (w : World) (i : I9) (A : Option Addr) (hs : List HV) (hc : Nat) (bs : Int) (hh : RepH w w.heap.size A hs) (hm : hs.length < 1000000000000000000) (hop : i.op = 7) :
    Calls Tryd.prog 10 #[.agg #[.int .i64 i.op, .int .i64 i.op2, .int .i64 i.ty, .int .i64 i.d, .int .i64 i.a, .int .i64 i.b, .int .i64 i.n, .int .i64 i.count, .int .i64 i.step], .slice A hs.length hc, .int .i64 bs] w (Selects w (readL hs bs i.a 6 ++ makeL hs bs i.d ⟨8, 0, readR hs i.a 6, 0, wrap32 (wrap64 (wrap64 (i.n * 128) + i.count))⟩)) := by
  obtain ⟨op, op2, ty, d, a, b, n, count, step⟩ := i
  simp only at hop
  subst hop
  have hbox : Blk ((w.alloc (.cells #[.int .i64 7, .int .i64 op2, .int .i64 ty, .int .i64 d, .int .i64 a, .int .i64 b, .int .i64 n, .int .i64 count, .int .i64 step] 23)).alloc (.cells #[.slice A hs.length hc, .int .i64 bs, .slice none 0 0] 69)) w.heap.size 23 #[.int .i64 7, .int .i64 op2, .int .i64 ty, .int .i64 d, .int .i64 a, .int .i64 b, .int .i64 n, .int .i64 count, .int .i64 step] := (Blk.newAt rfl).alloc _
  have hcho : RCho ((w.alloc (.cells #[.int .i64 7, .int .i64 op2, .int .i64 ty, .int .i64 d, .int .i64 a, .int .i64 b, .int .i64 n, .int .i64 count, .int .i64 step] 23)).alloc (.cells #[.slice A hs.length hc, .int .i64 bs, .slice none 0 0] 69)) (w.heap.size + 1) w.heap.size A hs hc bs (.slice none 0 0) [] :=
    ⟨Blk.newAt (by simp), World.ownsRow_nil _ _ _ _, hh.kept (S := fun _ => False) (((Keep.refl w _).alloc _).alloc _) (Nat.le_refl _) (fun _ _ h => h), by simp; omega, by omega, hm⟩
  have hb0 : Below w.heap.size w ((w.alloc (.cells #[.int .i64 7, .int .i64 op2, .int .i64 ty, .int .i64 d, .int .i64 a, .int .i64 b, .int .i64 n, .int .i64 count, .int .i64 step] 23)).alloc (.cells #[.slice A hs.length hc, .int .i64 bs, .slice none 0 0] 69)) := ((Below.refl _ _).alloc (Nat.le_refl _) _).alloc (by simp) _
  go_enter Tryd.func10, Tryd.ntmps10
  go_wp2_with fail
  have hra := readL_len hs bs a 6
  have hrb := readL_len hs bs b 7
  refine (rread_any _ (w.heap.size + 1) w.heap.size A hs hc bs (.slice none 0 0) [] a 6 hcho (by simp)).mono ?_
  rintro e w1 ⟨rfl, ov1, hl1, hs1⟩
  have hbox1 := hs1.rblk (by repeat (first | with_reducible exact hcho | apply RCho.drewN | apply RCho.drew | apply RCho.alloc)) (k := w.heap.size) (t := 23) (cs := #[.int .i64 7, .int .i64 op2, .int .i64 ty, .int .i64 d, .int .i64 a, .int .i64 b, .int .i64 n, .int .i64 count, .int .i64 step]) (by repeat (first | (with_reducible assumption) | (refine Blk.newAt ?_; simp; done) | (refine Blk.newAt ?_; rfl) | apply Blk.alloc | apply Blk.drew | apply Blk.drewN)) (by decide) (.inl (by decide))
  have x3 := hbox1.cell 3
  simp at x3
  have hblt := hbox1.lt
  have hglt1 := hl1.blk.lt
  go_wp2_with fail
  refine (rmake_any _ (w.heap.size + 1) w.heap.size A hs hc bs ov1 _ d 8 (readR hs a 6) 0 (wrap64 (wrap64 (128 * n) + count)) hl1 (by simp; omega)).mono ?_
  rintro e w2 ⟨rfl, ov2, hl2, hs2⟩
  have y2 := hl2.blk.cell 2
  have hglt := hl2.blk.lt
  simp at y2
  go_wp2_with fail
  go_ret
  rw [show IntKind.u8.wrap 8 = 8 from by decide, Int.mul_comm 128 n] at hl2
  exact ⟨ov2, rfl, by simpa using hl2.own, fin_below (CS.trans hs1 hs2) hb0 (by omega)⟩

set_option maxRecDepth 100000 in
set_option maxHeartbeats 6400000 in
theorem rsel_8 (w : World) (i : I9) (A : Option Addr) (hs : List HV) (hc : Nat) (bs : Int) (hh : RepH w w.heap.size A hs) (hm : hs.length < 1000000000000000000) (hop : i.op = 8) :
    Calls Tryd.prog 10 #[.agg #[.int .i64 i.op, .int .i64 i.op2, .int .i64 i.ty, .int .i64 i.d, .int .i64 i.a, .int .i64 i.b, .int .i64 i.n, .int .i64 i.count, .int .i64 i.step], .slice A hs.length hc, .int .i64 bs] w (Selects w (readL hs bs i.a 6 ++ (readL hs bs i.b 7 ++ [⟨9, readR hs i.b 7, readR hs i.a 6, 0, wrap32 (wrap64 (wrap64 (i.n * 128) + i.count))⟩]))) := by
  obtain ⟨op, op2, ty, d, a, b, n, count, step⟩ := i
  simp only at hop
  subst hop
  have hbox : Blk ((w.alloc (.cells #[.int .i64 8, .int .i64 op2, .int .i64 ty, .int .i64 d, .int .i64 a, .int .i64 b, .int .i64 n, .int .i64 count, .int .i64 step] 23)).alloc (.cells #[.slice A hs.length hc, .int .i64 bs, .slice none 0 0] 69)) w.heap.size 23 #[.int .i64 8, .int .i64 op2, .int .i64 ty, .int .i64 d, .int .i64 a, .int .i64 b, .int .i64 n, .int .i64 count, .int .i64 step] := (Blk.newAt rfl).alloc _
  have hcho : RCho ((w.alloc (.cells #[.int .i64 8, .int .i64 op2, .int .i64 ty, .int .i64 d, .int .i64 a, .int .i64 b, .int .i64 n, .int .i64 count, .int .i64 step] 23)).alloc (.cells #[.slice A hs.length hc, .int .i64 bs, .slice none 0 0] 69)) (w.heap.size + 1) w.heap.size A hs hc bs (.slice none 0 0) [] :=
    ⟨Blk.newAt (by simp), World.ownsRow_nil _ _ _ _, hh.kept (S := fun _ => False) (((Keep.refl w _).alloc _).alloc _) (Nat.le_refl _) (fun _ _ h => h), by simp; omega, by omega, hm⟩
  have hb0 : Below w.heap.size w ((w.alloc (.cells #[.int .i64 8, .int .i64 op2, .int .i64 ty, .int .i64 d, .int .i64 a, .int .i64 b, .int .i64 n, .int .i64 count, .int .i64 step] 23)).alloc (.cells #[.slice A hs.length hc, .int .i64 bs, .slice none 0 0] 69)) := ((Below.refl _ _).alloc (Nat.le_refl _) _).alloc (by simp) _
  go_enter Tryd.func10, Tryd.ntmps10
  go_wp2_with fail
  have hra := readL_len hs bs a 6
  have hrb := readL_len hs bs b 7
  refine (rread_any _ (w.heap.size + 1) w.heap.size A hs hc bs (.slice none 0 0) [] a 6 hcho (by simp)).mono ?_
  rintro e w1 ⟨rfl, ov1, hl1, hs1⟩
  have hbox1 := hs1.rblk (by repeat (first | with_reducible exact hcho | apply RCho.drewN | apply RCho.drew | apply RCho.alloc)) (k := w.heap.size) (t := 23) (cs := #[.int .i64 8, .int .i64 op2, .int .i64 ty, .int .i64 d, .int .i64 a, .int .i64 b, .int .i64 n, .int .i64 count, .int .i64 step]) (by repeat (first | (with_reducible assumption) | (refine Blk.newAt ?_; simp; done) | (refine Blk.newAt ?_; rfl) | apply Blk.alloc | apply Blk.drew | apply Blk.drewN)) (by decide) (.inl (by decide))
  have x5 := hbox1.cell 5
  simp at x5
  have hblt := hbox1.lt
  have hglt1 := hl1.blk.lt
  go_wp2_with fail
  refine (rread_any _ (w.heap.size + 1) w.heap.size A hs hc bs ov1 _ b 7 hl1 (by simp; omega)).mono ?_
  rintro e w2 ⟨rfl, ov2, hl2, hs2⟩
  have hglt2 := hl2.blk.lt
  go_wp2_with fail
  refine (radd_any _ (w.heap.size + 1) w.heap.size A hs hc bs ov2 _ 9 (readR hs b 7) (readR hs a 6) 0 (wrap64 (wrap64 (128 * n) + count)) hl2 (by simp; omega)).mono ?_
  rintro e w3 ⟨rfl, ov3, hl3, hs3⟩
  have y2 := hl3.blk.cell 2
  have hglt := hl3.blk.lt
  simp at y2
  go_wp2_with fail
  go_ret
  rw [show IntKind.u8.wrap 9 = 9 from by decide, Int.mul_comm 128 n] at hl3
  exact ⟨ov3, rfl, by simpa using hl3.own, fin_below (CS.trans (CS.trans hs1 hs2) hs3) hb0 (by omega)⟩

set_option maxRecDepth 100000 in
set_option maxHeartbeats 6400000 in
theorem rsel_9 (w : World) (i : I9) (A : Option Addr) (hs : List HV) (hc : Nat) (bs : Int) (hh : RepH w w.heap.size A hs) (hm : hs.length < 1000000000000000000) (hop : i.op = 9) :
    Calls Tryd.prog 10 #[.agg #[.int .i64 i.op, .int .i64 i.op2, .int .i64 i.ty, .int .i64 i.d, .int .i64 i.a, .int .i64 i.b, .int .i64 i.n, .int .i64 i.count, .int .i64 i.step], .slice A hs.length hc, .int .i64 bs] w (Selects w (makeL hs bs i.d ⟨10, 0, 0, 0, wrap32 i.n⟩)) := by
  obtain ⟨op, op2, ty, d, a, b, n, count, step⟩ := i
  simp only at hop
  subst hop
  have hbox : Blk ((w.alloc (.cells #[.int .i64 9, .int .i64 op2, .int .i64 ty, .int .i64 d, .int .i64 a, .int .i64 b, .int .i64 n, .int .i64 count, .int .i64 step] 23)).alloc (.cells #[.slice A hs.length hc, .int .i64 bs, .slice none 0 0] 69)) w.heap.size 23 #[.int .i64 9, .int .i64 op2, .int .i64 ty, .int .i64 d, .int .i64 a, .int .i64 b, .int .i64 n, .int .i64 count, .int .i64 step] := (Blk.newAt rfl).alloc _
  have hcho : RCho ((w.alloc (.cells #[.int .i64 9, .int .i64 op2, .int .i64 ty, .int .i64 d, .int .i64 a, .int .i64 b, .int .i64 n, .int .i64 count, .int .i64 step] 23)).alloc (.cells #[.slice A hs.length hc, .int .i64 bs, .slice none 0 0] 69)) (w.heap.size + 1) w.heap.size A hs hc bs (.slice none 0 0) [] :=
    ⟨Blk.newAt (by simp), World.ownsRow_nil _ _ _ _, hh.kept (S := fun _ => False) (((Keep.refl w _).alloc _).alloc _) (Nat.le_refl _) (fun _ _ h => h), by simp; omega, by omega, hm⟩
  have hb0 : Below w.heap.size w ((w.alloc (.cells #[.int .i64 9, .int .i64 op2, .int .i64 ty, .int .i64 d, .int .i64 a, .int .i64 b, .int .i64 n, .int .i64 count, .int .i64 step] 23)).alloc (.cells #[.slice A hs.length hc, .int .i64 bs, .slice none 0 0] 69)) := ((Below.refl _ _).alloc (Nat.le_refl _) _).alloc (by simp) _
  go_enter Tryd.func10, Tryd.ntmps10
  go_wp2_with fail
  refine (rmake_any _ (w.heap.size + 1) w.heap.size A hs hc bs (.slice none 0 0) [] d 10 0 0 n hcho (by simp)).mono ?_
  rintro e w1 ⟨rfl, ov1, hl1, hs1⟩
  have y2 := hl1.blk.cell 2
  have hglt := hl1.blk.lt
  simp at y2
  go_wp2_with fail
  go_ret
  rw [show IntKind.u8.wrap 10 = 10 from by decide] at hl1
  exact ⟨ov1, rfl, by simpa using hl1.own, fin_below (hs1) hb0 (by omega)⟩

set_option maxRecDepth 100000 in
set_option maxHeartbeats 6400000 in
theorem rsel_10 (w : World) (i : I9) (A : Option Addr) (hs : List HV) (hc : Nat) (bs : Int) (hh : RepH w w.heap.size A hs) (hm : hs.length < 1000000000000000000) (hop : i.op = 10) :
    Calls Tryd.prog 10 #[.agg #[.int .i64 i.op, .int .i64 i.op2, .int .i64 i.ty, .int .i64 i.d, .int .i64 i.a, .int .i64 i.b, .int .i64 i.n, .int .i64 i.count, .int .i64 i.step], .slice A hs.length hc, .int .i64 bs] w (Selects w (readL hs bs i.a 6 ++ [⟨11, readR hs i.a 6, 0, 0, wrap32 i.n⟩])) := by
  obtain ⟨op, op2, ty, d, a, b, n, count, step⟩ := i
  simp only at hop
  subst hop
  have hbox : Blk ((w.alloc (.cells #[.int .i64 10, .int .i64 op2, .int .i64 ty, .int .i64 d, .int .i64 a, .int .i64 b, .int .i64 n, .int .i64 count, .int .i64 step] 23)).alloc (.cells #[.slice A hs.length hc, .int .i64 bs, .slice none 0 0] 69)) w.heap.size 23 #[.int .i64 10, .int .i64 op2, .int .i64 ty, .int .i64 d, .int .i64 a, .int .i64 b, .int .i64 n, .int .i64 count, .int .i64 step] := (Blk.newAt rfl).alloc _
  have hcho : RCho ((w.alloc (.cells #[.int .i64 10, .int .i64 op2, .int .i64 ty, .int .i64 d, .int .i64 a, .int .i64 b, .int .i64 n, .int .i64 count, .int .i64 step] 23)).alloc (.cells #[.slice A hs.length hc, .int .i64 bs, .slice none 0 0] 69)) (w.heap.size + 1) w.heap.size A hs hc bs (.slice none 0 0) [] :=
    ⟨Blk.newAt (by simp), World.ownsRow_nil _ _ _ _, hh.kept (S := fun _ => False) (((Keep.refl w _).alloc _).alloc _) (Nat.le_refl _) (fun _ _ h => h), by simp; omega, by omega, hm⟩
  have hb0 : Below w.heap.size w ((w.alloc (.cells #[.int .i64 10, .int .i64 op2, .int .i64 ty, .int .i64 d, .int .i64 a, .int .i64 b, .int .i64 n, .int .i64 count, .int .i64 step] 23)).alloc (.cells #[.slice A hs.length hc, .int .i64 bs, .slice none 0 0] 69)) := ((Below.refl _ _).alloc (Nat.le_refl _) _).alloc (by simp) _
  go_enter Tryd.func10, Tryd.ntmps10
  go_wp2_with fail
  have hra := readL_len hs bs a 6
  have hrb := readL_len hs bs b 7
  go_region_held3 (fun w' => w'.cell? ⟨w.heap.size, 4, none⟩ = some (.int .i64 a) ∧ w'.cell? ⟨w.heap.size, 6, none⟩ = some (.int .i64 n))
    (first
      | (refine ⟨cell_of_blk hbox2 (by rfl), cell_of_blk hbox2 (by rfl)⟩)
      | (refine ⟨cell_of_blk hbox1 (by rfl), cell_of_blk hbox1 (by rfl)⟩)
      | (refine ⟨cell_of_blk (by repeat (first | (with_reducible assumption) | (refine Blk.newAt ?_; simp; done) | (refine Blk.newAt ?_; rfl) | apply Blk.alloc | apply Blk.drew | apply Blk.drewN)) (by rfl), cell_of_blk (by repeat (first | (with_reducible assumption) | (refine Blk.newAt ?_; simp; done) | (refine Blk.newAt ?_; rfl) | apply Blk.alloc | apply Blk.drew | apply Blk.drewN)) (by rfl)⟩))
    (first
      | (go_at_call 45; refine (rread_any _ (w.heap.size + 1) w.heap.size A hs hc bs (.slice none 0 0) [] a 6 (by repeat (first | with_reducible exact hcho | apply RCho.drewN | apply RCho.drew | apply RCho.alloc)) (by simp)).mono ?_; rintro e w1 ⟨rfl, ov1, hl1, hs1⟩; have hbox1 := hs1.rblk (by repeat (first | with_reducible exact hcho | apply RCho.drewN | apply RCho.drew | apply RCho.alloc)) (k := w.heap.size) (t := 23) (cs := #[.int .i64 10, .int .i64 op2, .int .i64 ty, .int .i64 d, .int .i64 a, .int .i64 b, .int .i64 n, .int .i64 count, .int .i64 step]) (by repeat (first | (with_reducible assumption) | (refine Blk.newAt ?_; simp; done) | (refine Blk.newAt ?_; rfl) | apply Blk.alloc | apply Blk.drew | apply Blk.drewN)) (by decide) (.inl (by decide)))
      | (go_at_call 41; refine (radd_any _ (w.heap.size + 1) w.heap.size A hs hc bs ov1 _ 11 (readR hs a 6) 0 0 n hl1 (by simp; omega)).mono ?_; rintro e w2 ⟨rfl, ov2, hl2, hs2⟩; have hbox2 := hs2.rblk hl1 hbox1 (by decide) (.inl (by decide))))
  all_goals
    have y2 := hl2.blk.cell 2
    have hglt := hl2.blk.lt
    simp at y2
    go_wp2_with fail
    go_ret
    rw [show IntKind.u8.wrap 11 = 11 from by decide] at hl2
    exact ⟨ov2, rfl, by simpa using hl2.own, fin_below (CS.trans (CS.trans (by repeat (first  | exact CS.refl _ _ _ | apply CS.drewN | apply CS.drew | apply CS.alloc)) hs1) hs2) hb0 (by omega)⟩

set_option maxRecDepth 100000 in
set_option maxHeartbeats 6400000 in
theorem rsel_11 (w : World) (i : I9) (A : Option Addr) (hs : List HV) (hc : Nat) (bs : Int) (hh : RepH w w.heap.size A hs) (hm : hs.length < 1000000000000000000) (hop : i.op = 11) :
    Calls Tryd.prog 10 #[.agg #[.int .i64 i.op, .int .i64 i.op2, .int .i64 i.ty, .int .i64 i.d, .int .i64 i.a, .int .i64 i.b, .int .i64 i.n, .int .i64 i.count, .int .i64 i.step], .slice A hs.length hc, .int .i64 bs] w (Selects w (readL hs bs i.a 6 ++ [⟨14, readR hs i.a 6, 0, 0, wrap32 i.n⟩])) := by
  obtain ⟨op, op2, ty, d, a, b, n, count, step⟩ := i
  simp only at hop
  subst hop
  have hbox : Blk ((w.alloc (.cells #[.int .i64 11, .int .i64 op2, .int .i64 ty, .int .i64 d, .int .i64 a, .int .i64 b, .int .i64 n, .int .i64 count, .int .i64 step] 23)).alloc (.cells #[.slice A hs.length hc, .int .i64 bs, .slice none 0 0] 69)) w.heap.size 23 #[.int .i64 11, .int .i64 op2, .int .i64 ty, .int .i64 d, .int .i64 a, .int .i64 b, .int .i64 n, .int .i64 count, .int .i64 step] := (Blk.newAt rfl).alloc _
  have hcho : RCho ((w.alloc (.cells #[.int .i64 11, .int .i64 op2, .int .i64 ty, .int .i64 d, .int .i64 a, .int .i64 b, .int .i64 n, .int .i64 count, .int .i64 step] 23)).alloc (.cells #[.slice A hs.length hc, .int .i64 bs, .slice none 0 0] 69)) (w.heap.size + 1) w.heap.size A hs hc bs (.slice none 0 0) [] :=
    ⟨Blk.newAt (by simp), World.ownsRow_nil _ _ _ _, hh.kept (S := fun _ => False) (((Keep.refl w _).alloc _).alloc _) (Nat.le_refl _) (fun _ _ h => h), by simp; omega, by omega, hm⟩
  have hb0 : Below w.heap.size w ((w.alloc (.cells #[.int .i64 11, .int .i64 op2, .int .i64 ty, .int .i64 d, .int .i64 a, .int .i64 b, .int .i64 n, .int .i64 count, .int .i64 step] 23)).alloc (.cells #[.slice A hs.length hc, .int .i64 bs, .slice none 0 0] 69)) := ((Below.refl _ _).alloc (Nat.le_refl _) _).alloc (by simp) _
  go_enter Tryd.func10, Tryd.ntmps10
  go_wp2_with fail
  have hra := readL_len hs bs a 6
  have hrb := readL_len hs bs b 7
  go_region_held3 (fun w' => w'.cell? ⟨w.heap.size, 4, none⟩ = some (.int .i64 a) ∧ w'.cell? ⟨w.heap.size, 6, none⟩ = some (.int .i64 n))
    (first
      | (refine ⟨cell_of_blk hbox2 (by rfl), cell_of_blk hbox2 (by rfl)⟩)
      | (refine ⟨cell_of_blk hbox1 (by rfl), cell_of_blk hbox1 (by rfl)⟩)
      | (refine ⟨cell_of_blk (by repeat (first | (with_reducible assumption) | (refine Blk.newAt ?_; simp; done) | (refine Blk.newAt ?_; rfl) | apply Blk.alloc | apply Blk.drew | apply Blk.drewN)) (by rfl), cell_of_blk (by repeat (first | (with_reducible assumption) | (refine Blk.newAt ?_; simp; done) | (refine Blk.newAt ?_; rfl) | apply Blk.alloc | apply Blk.drew | apply Blk.drewN)) (by rfl)⟩))
    (first
      | (go_at_call 45; refine (rread_any _ (w.heap.size + 1) w.heap.size A hs hc bs (.slice none 0 0) [] a 6 (by repeat (first | with_reducible exact hcho | apply RCho.drewN | apply RCho.drew | apply RCho.alloc)) (by simp)).mono ?_; rintro e w1 ⟨rfl, ov1, hl1, hs1⟩; have hbox1 := hs1.rblk (by repeat (first | with_reducible exact hcho | apply RCho.drewN | apply RCho.drew | apply RCho.alloc)) (k := w.heap.size) (t := 23) (cs := #[.int .i64 11, .int .i64 op2, .int .i64 ty, .int .i64 d, .int .i64 a, .int .i64 b, .int .i64 n, .int .i64 count, .int .i64 step]) (by repeat (first | (with_reducible assumption) | (refine Blk.newAt ?_; simp; done) | (refine Blk.newAt ?_; rfl) | apply Blk.alloc | apply Blk.drew | apply Blk.drewN)) (by decide) (.inl (by decide)))
      | (go_at_call 41; refine (radd_any _ (w.heap.size + 1) w.heap.size A hs hc bs ov1 _ 14 (readR hs a 6) 0 0 n hl1 (by simp; omega)).mono ?_; rintro e w2 ⟨rfl, ov2, hl2, hs2⟩; have hbox2 := hs2.rblk hl1 hbox1 (by decide) (.inl (by decide))))
  all_goals
    have y2 := hl2.blk.cell 2
    have hglt := hl2.blk.lt
    simp at y2
    go_wp2_with fail
    go_ret
    rw [show IntKind.u8.wrap 14 = 14 from by decide] at hl2
    exact ⟨ov2, rfl, by simpa using hl2.own, fin_below (CS.trans (CS.trans (by repeat (first  | exact CS.refl _ _ _ | apply CS.drewN | apply CS.drew | apply CS.alloc)) hs1) hs2) hb0 (by omega)⟩

set_option maxRecDepth 100000 in
set_option maxHeartbeats 6400000 in
theorem rsel_12 (w : World) (i : I9) (A : Option Addr) (hs : List HV) (hc : Nat) (bs : Int) (hh : RepH w w.heap.size A hs) (hm : hs.length < 1000000000000000000) (hop : i.op = 12) :
    Calls Tryd.prog 10 #[.agg #[.int .i64 i.op, .int .i64 i.op2, .int .i64 i.ty, .int .i64 i.d, .int .i64 i.a, .int .i64 i.b, .int .i64 i.n, .int .i64 i.count, .int .i64 i.step], .slice A hs.length hc, .int .i64 bs] w (Selects w ([⟨15, 0, 0, 0, wrap32 i.n⟩])) := by
  obtain ⟨op, op2, ty, d, a, b, n, count, step⟩ := i
  simp only at hop
  subst hop
  have hbox : Blk ((w.alloc (.cells #[.int .i64 12, .int .i64 op2, .int .i64 ty, .int .i64 d, .int .i64 a, .int .i64 b, .int .i64 n, .int .i64 count, .int .i64 step] 23)).alloc (.cells #[.slice A hs.length hc, .int .i64 bs, .slice none 0 0] 69)) w.heap.size 23 #[.int .i64 12, .int .i64 op2, .int .i64 ty, .int .i64 d, .int .i64 a, .int .i64 b, .int .i64 n, .int .i64 count, .int .i64 step] := (Blk.newAt rfl).alloc _
  have hcho : RCho ((w.alloc (.cells #[.int .i64 12, .int .i64 op2, .int .i64 ty, .int .i64 d, .int .i64 a, .int .i64 b, .int .i64 n, .int .i64 count, .int .i64 step] 23)).alloc (.cells #[.slice A hs.length hc, .int .i64 bs, .slice none 0 0] 69)) (w.heap.size + 1) w.heap.size A hs hc bs (.slice none 0 0) [] :=
    ⟨Blk.newAt (by simp), World.ownsRow_nil _ _ _ _, hh.kept (S := fun _ => False) (((Keep.refl w _).alloc _).alloc _) (Nat.le_refl _) (fun _ _ h => h), by simp; omega, by omega, hm⟩
  have hb0 : Below w.heap.size w ((w.alloc (.cells #[.int .i64 12, .int .i64 op2, .int .i64 ty, .int .i64 d, .int .i64 a, .int .i64 b, .int .i64 n, .int .i64 count, .int .i64 step] 23)).alloc (.cells #[.slice A hs.length hc, .int .i64 bs, .slice none 0 0] 69)) := ((Below.refl _ _).alloc (Nat.le_refl _) _).alloc (by simp) _
  go_enter Tryd.func10, Tryd.ntmps10
  go_wp2_with fail
  go_region_held3 (fun w' => w'.cell? ⟨w.heap.size, 0, none⟩ = some (.int .i64 12) ∧ w'.cell? ⟨w.heap.size, 6, none⟩ = some (.int .i64 n))
    (first
      | (refine ⟨cell_of_blk (by repeat (first | (with_reducible assumption) | (refine Blk.newAt ?_; simp; done) | (refine Blk.newAt ?_; rfl) | apply Blk.alloc | apply Blk.drew | apply Blk.drewN)) (by rfl), cell_of_blk (by repeat (first | (with_reducible assumption) | (refine Blk.newAt ?_; simp; done) | (refine Blk.newAt ?_; rfl) | apply Blk.alloc | apply Blk.drew | apply Blk.drewN)) (by rfl)⟩)
      | (refine ⟨cell_of_blk hbox1 (by rfl), cell_of_blk hbox1 (by rfl)⟩))
    (first
      | (go_at_call 42; refine (bare_12 _).mono ?_; rintro e w1 ⟨rfl, rfl⟩)
      | (go_at_call 41; refine (radd_any _ (w.heap.size + 1) w.heap.size A hs hc bs (.slice none 0 0) [] 15 0 0 0 n (by repeat (first | with_reducible exact hcho | apply RCho.drewN | apply RCho.drew | apply RCho.alloc)) (by simp)).mono ?_; rintro e w1 ⟨rfl, ov1, hl1, hs1⟩; have hbox1 := hs1.rblk (by repeat (first | with_reducible exact hcho | apply RCho.drewN | apply RCho.drew | apply RCho.alloc)) (k := w.heap.size) (t := 23) (cs := #[.int .i64 12, .int .i64 op2, .int .i64 ty, .int .i64 d, .int .i64 a, .int .i64 b, .int .i64 n, .int .i64 count, .int .i64 step]) (by repeat (first | (with_reducible assumption) | (refine Blk.newAt ?_; simp; done) | (refine Blk.newAt ?_; rfl) | apply Blk.alloc | apply Blk.drew | apply Blk.drewN)) (by decide) (.inl (by decide))))
  all_goals
    have y2 := hl1.blk.cell 2
    have hglt := hl1.blk.lt
    simp at y2
    go_wp2_with fail
    go_ret
    rw [show IntKind.u8.wrap 15 = 15 from by decide] at hl1
    exact ⟨ov1, rfl, by simpa using hl1.own, fin_below (CS.trans (by repeat (first  | exact CS.refl _ _ _ | apply CS.drewN | apply CS.drew | apply CS.alloc)) hs1) hb0 (by omega)⟩

set_option maxRecDepth 100000 in
set_option maxHeartbeats 6400000 in
theorem rsel_13 (w : World) (i : I9) (A : Option Addr) (hs : List HV) (hc : Nat) (bs : Int) (hh : RepH w w.heap.size A hs) (hm : hs.length < 1000000000000000000) (hop : i.op = 13) :
    Calls Tryd.prog 10 #[.agg #[.int .i64 i.op, .int .i64 i.op2, .int .i64 i.ty, .int .i64 i.d, .int .i64 i.a, .int .i64 i.b, .int .i64 i.n, .int .i64 i.count, .int .i64 i.step], .slice A hs.length hc, .int .i64 bs] w (Selects w (makeL hs bs i.d ⟨19, 0, 0, 0, 0⟩)) := by
  obtain ⟨op, op2, ty, d, a, b, n, count, step⟩ := i
  simp only at hop
  subst hop
  have hbox : Blk ((w.alloc (.cells #[.int .i64 13, .int .i64 op2, .int .i64 ty, .int .i64 d, .int .i64 a, .int .i64 b, .int .i64 n, .int .i64 count, .int .i64 step] 23)).alloc (.cells #[.slice A hs.length hc, .int .i64 bs, .slice none 0 0] 69)) w.heap.size 23 #[.int .i64 13, .int .i64 op2, .int .i64 ty, .int .i64 d, .int .i64 a, .int .i64 b, .int .i64 n, .int .i64 count, .int .i64 step] := (Blk.newAt rfl).alloc _
  have hcho : RCho ((w.alloc (.cells #[.int .i64 13, .int .i64 op2, .int .i64 ty, .int .i64 d, .int .i64 a, .int .i64 b, .int .i64 n, .int .i64 count, .int .i64 step] 23)).alloc (.cells #[.slice A hs.length hc, .int .i64 bs, .slice none 0 0] 69)) (w.heap.size + 1) w.heap.size A hs hc bs (.slice none 0 0) [] :=
    ⟨Blk.newAt (by simp), World.ownsRow_nil _ _ _ _, hh.kept (S := fun _ => False) (((Keep.refl w _).alloc _).alloc _) (Nat.le_refl _) (fun _ _ h => h), by simp; omega, by omega, hm⟩
  have hb0 : Below w.heap.size w ((w.alloc (.cells #[.int .i64 13, .int .i64 op2, .int .i64 ty, .int .i64 d, .int .i64 a, .int .i64 b, .int .i64 n, .int .i64 count, .int .i64 step] 23)).alloc (.cells #[.slice A hs.length hc, .int .i64 bs, .slice none 0 0] 69)) := ((Below.refl _ _).alloc (Nat.le_refl _) _).alloc (by simp) _
  go_enter Tryd.func10, Tryd.ntmps10
  go_wp2_with fail
  refine (rmake_any _ (w.heap.size + 1) w.heap.size A hs hc bs (.slice none 0 0) [] d 19 0 0 0 hcho (by simp)).mono ?_
  rintro e w1 ⟨rfl, ov1, hl1, hs1⟩
  have y2 := hl1.blk.cell 2
  have hglt := hl1.blk.lt
  simp at y2
  go_wp2_with fail
  go_ret
  rw [show IntKind.u8.wrap 19 = 19 from by decide, show wrap32 0 = 0 from by unfold wrap32; omega] at hl1
  exact ⟨ov1, rfl, by simpa using hl1.own, fin_below (hs1) hb0 (by omega)⟩

set_option maxRecDepth 100000 in
set_option maxHeartbeats 6400000 in
theorem rsel_14 (w : World) (i : I9) (A : Option Addr) (hs : List HV) (hc : Nat) (bs : Int) (hh : RepH w w.heap.size A hs) (hm : hs.length < 1000000000000000000) (hop : i.op = 14) :
    Calls Tryd.prog 10 #[.agg #[.int .i64 i.op, .int .i64 i.op2, .int .i64 i.ty, .int .i64 i.d, .int .i64 i.a, .int .i64 i.b, .int .i64 i.n, .int .i64 i.count, .int .i64 i.step], .slice A hs.length hc, .int .i64 bs] w (Selects w (readL hs bs i.a 6 ++ [⟨17, readR hs i.a 6, 0, 0, wrap32 i.n⟩])) := by
  obtain ⟨op, op2, ty, d, a, b, n, count, step⟩ := i
  simp only at hop
  subst hop
  have hbox : Blk ((w.alloc (.cells #[.int .i64 14, .int .i64 op2, .int .i64 ty, .int .i64 d, .int .i64 a, .int .i64 b, .int .i64 n, .int .i64 count, .int .i64 step] 23)).alloc (.cells #[.slice A hs.length hc, .int .i64 bs, .slice none 0 0] 69)) w.heap.size 23 #[.int .i64 14, .int .i64 op2, .int .i64 ty, .int .i64 d, .int .i64 a, .int .i64 b, .int .i64 n, .int .i64 count, .int .i64 step] := (Blk.newAt rfl).alloc _
  have hcho : RCho ((w.alloc (.cells #[.int .i64 14, .int .i64 op2, .int .i64 ty, .int .i64 d, .int .i64 a, .int .i64 b, .int .i64 n, .int .i64 count, .int .i64 step] 23)).alloc (.cells #[.slice A hs.length hc, .int .i64 bs, .slice none 0 0] 69)) (w.heap.size + 1) w.heap.size A hs hc bs (.slice none 0 0) [] :=
    ⟨Blk.newAt (by simp), World.ownsRow_nil _ _ _ _, hh.kept (S := fun _ => False) (((Keep.refl w _).alloc _).alloc _) (Nat.le_refl _) (fun _ _ h => h), by simp; omega, by omega, hm⟩
  have hb0 : Below w.heap.size w ((w.alloc (.cells #[.int .i64 14, .int .i64 op2, .int .i64 ty, .int .i64 d, .int .i64 a, .int .i64 b, .int .i64 n, .int .i64 count, .int .i64 step] 23)).alloc (.cells #[.slice A hs.length hc, .int .i64 bs, .slice none 0 0] 69)) := ((Below.refl _ _).alloc (Nat.le_refl _) _).alloc (by simp) _
  go_enter Tryd.func10, Tryd.ntmps10
  go_wp2_with fail
  have hra := readL_len hs bs a 6
  have hrb := readL_len hs bs b 7
  go_region_held3 (fun w' => w'.cell? ⟨w.heap.size, 4, none⟩ = some (.int .i64 a) ∧ w'.cell? ⟨w.heap.size, 6, none⟩ = some (.int .i64 n))
    (first
      | (refine ⟨cell_of_blk hbox2 (by rfl), cell_of_blk hbox2 (by rfl)⟩)
      | (refine ⟨cell_of_blk hbox1 (by rfl), cell_of_blk hbox1 (by rfl)⟩)
      | (refine ⟨cell_of_blk (by repeat (first | (with_reducible assumption) | (refine Blk.newAt ?_; simp; done) | (refine Blk.newAt ?_; rfl) | apply Blk.alloc | apply Blk.drew | apply Blk.drewN)) (by rfl), cell_of_blk (by repeat (first | (with_reducible assumption) | (refine Blk.newAt ?_; simp; done) | (refine Blk.newAt ?_; rfl) | apply Blk.alloc | apply Blk.drew | apply Blk.drewN)) (by rfl)⟩))
    (first
      | (go_at_call 45; refine (rread_any _ (w.heap.size + 1) w.heap.size A hs hc bs (.slice none 0 0) [] a 6 (by repeat (first | with_reducible exact hcho | apply RCho.drewN | apply RCho.drew | apply RCho.alloc)) (by simp)).mono ?_; rintro e w1 ⟨rfl, ov1, hl1, hs1⟩; have hbox1 := hs1.rblk (by repeat (first | with_reducible exact hcho | apply RCho.drewN | apply RCho.drew | apply RCho.alloc)) (k := w.heap.size) (t := 23) (cs := #[.int .i64 14, .int .i64 op2, .int .i64 ty, .int .i64 d, .int .i64 a, .int .i64 b, .int .i64 n, .int .i64 count, .int .i64 step]) (by repeat (first | (with_reducible assumption) | (refine Blk.newAt ?_; simp; done) | (refine Blk.newAt ?_; rfl) | apply Blk.alloc | apply Blk.drew | apply Blk.drewN)) (by decide) (.inl (by decide)))
      | (go_at_call 41; refine (radd_any _ (w.heap.size + 1) w.heap.size A hs hc bs ov1 _ 17 (readR hs a 6) 0 0 n hl1 (by simp; omega)).mono ?_; rintro e w2 ⟨rfl, ov2, hl2, hs2⟩; have hbox2 := hs2.rblk hl1 hbox1 (by decide) (.inl (by decide))))
  all_goals
    have y2 := hl2.blk.cell 2
    have hglt := hl2.blk.lt
    simp at y2
    go_wp2_with fail
    go_ret
    rw [show IntKind.u8.wrap 17 = 17 from by decide] at hl2
    exact ⟨ov2, rfl, by simpa using hl2.own, fin_below (CS.trans (CS.trans (by repeat (first  | exact CS.refl _ _ _ | apply CS.drewN | apply CS.drew | apply CS.alloc)) hs1) hs2) hb0 (by omega)⟩

set_option maxRecDepth 100000 in
set_option maxHeartbeats 6400000 in
theorem rsel_15 (w : World) (i : I9) (A : Option Addr) (hs : List HV) (hc : Nat) (bs : Int) (hh : RepH w w.heap.size A hs) (hm : hs.length < 1000000000000000000) (hop : i.op = 15) :
    Calls Tryd.prog 10 #[.agg #[.int .i64 i.op, .int .i64 i.op2, .int .i64 i.ty, .int .i64 i.d, .int .i64 i.a, .int .i64 i.b, .int .i64 i.n, .int .i64 i.count, .int .i64 i.step], .slice A hs.length hc, .int .i64 bs] w (Selects w ([⟨20, 0, 0, 0, wrap32 i.n⟩])) := by
  obtain ⟨op, op2, ty, d, a, b, n, count, step⟩ := i
  simp only at hop
  subst hop
  have hbox : Blk ((w.alloc (.cells #[.int .i64 15, .int .i64 op2, .int .i64 ty, .int .i64 d, .int .i64 a, .int .i64 b, .int .i64 n, .int .i64 count, .int .i64 step] 23)).alloc (.cells #[.slice A hs.length hc, .int .i64 bs, .slice none 0 0] 69)) w.heap.size 23 #[.int .i64 15, .int .i64 op2, .int .i64 ty, .int .i64 d, .int .i64 a, .int .i64 b, .int .i64 n, .int .i64 count, .int .i64 step] := (Blk.newAt rfl).alloc _
  have hcho : RCho ((w.alloc (.cells #[.int .i64 15, .int .i64 op2, .int .i64 ty, .int .i64 d, .int .i64 a, .int .i64 b, .int .i64 n, .int .i64 count, .int .i64 step] 23)).alloc (.cells #[.slice A hs.length hc, .int .i64 bs, .slice none 0 0] 69)) (w.heap.size + 1) w.heap.size A hs hc bs (.slice none 0 0) [] :=
    ⟨Blk.newAt (by simp), World.ownsRow_nil _ _ _ _, hh.kept (S := fun _ => False) (((Keep.refl w _).alloc _).alloc _) (Nat.le_refl _) (fun _ _ h => h), by simp; omega, by omega, hm⟩
  have hb0 : Below w.heap.size w ((w.alloc (.cells #[.int .i64 15, .int .i64 op2, .int .i64 ty, .int .i64 d, .int .i64 a, .int .i64 b, .int .i64 n, .int .i64 count, .int .i64 step] 23)).alloc (.cells #[.slice A hs.length hc, .int .i64 bs, .slice none 0 0] 69)) := ((Below.refl _ _).alloc (Nat.le_refl _) _).alloc (by simp) _
  go_enter Tryd.func10, Tryd.ntmps10
  go_wp2_with fail
  go_region_held3 (fun w' => w'.cell? ⟨w.heap.size, 0, none⟩ = some (.int .i64 15) ∧ w'.cell? ⟨w.heap.size, 6, none⟩ = some (.int .i64 n))
    (first
      | (refine ⟨cell_of_blk (by repeat (first | (with_reducible assumption) | (refine Blk.newAt ?_; simp; done) | (refine Blk.newAt ?_; rfl) | apply Blk.alloc | apply Blk.drew | apply Blk.drewN)) (by rfl), cell_of_blk (by repeat (first | (with_reducible assumption) | (refine Blk.newAt ?_; simp; done) | (refine Blk.newAt ?_; rfl) | apply Blk.alloc | apply Blk.drew | apply Blk.drewN)) (by rfl)⟩)
      | (refine ⟨cell_of_blk hbox1 (by rfl), cell_of_blk hbox1 (by rfl)⟩))
    (first
      | (go_at_call 42; refine (bare_15 _).mono ?_; rintro e w1 ⟨rfl, rfl⟩)
      | (go_at_call 41; refine (radd_any _ (w.heap.size + 1) w.heap.size A hs hc bs (.slice none 0 0) [] 20 0 0 0 n (by repeat (first | with_reducible exact hcho | apply RCho.drewN | apply RCho.drew | apply RCho.alloc)) (by simp)).mono ?_; rintro e w1 ⟨rfl, ov1, hl1, hs1⟩; have hbox1 := hs1.rblk (by repeat (first | with_reducible exact hcho | apply RCho.drewN | apply RCho.drew | apply RCho.alloc)) (k := w.heap.size) (t := 23) (cs := #[.int .i64 15, .int .i64 op2, .int .i64 ty, .int .i64 d, .int .i64 a, .int .i64 b, .int .i64 n, .int .i64 count, .int .i64 step]) (by repeat (first | (with_reducible assumption) | (refine Blk.newAt ?_; simp; done) | (refine Blk.newAt ?_; rfl) | apply Blk.alloc | apply Blk.drew | apply Blk.drewN)) (by decide) (.inl (by decide))))
  all_goals
    have y2 := hl1.blk.cell 2
    have hglt := hl1.blk.lt
    simp at y2
    go_wp2_with fail
    go_ret
    rw [show IntKind.u8.wrap 20 = 20 from by decide] at hl1
    exact ⟨ov1, rfl, by simpa using hl1.own, fin_below (CS.trans (by repeat (first  | exact CS.refl _ _ _ | apply CS.drewN | apply CS.drew | apply CS.alloc)) hs1) hb0 (by omega)⟩

set_option maxRecDepth 100000 in
set_option maxHeartbeats 6400000 in
theorem rsel_16 (w : World) (i : I9) (A : Option Addr) (hs : List HV) (hc : Nat) (bs : Int) (hh : RepH w w.heap.size A hs) (hm : hs.length < 1000000000000000000) (hop : i.op = 16) :
    Calls Tryd.prog 10 #[.agg #[.int .i64 i.op, .int .i64 i.op2, .int .i64 i.ty, .int .i64 i.d, .int .i64 i.a, .int .i64 i.b, .int .i64 i.n, .int .i64 i.count, .int .i64 i.step], .slice A hs.length hc, .int .i64 bs] w (Selects w (readL hs bs i.a 6 ++ [⟨21, readR hs i.a 6, 0, 0, wrap32 i.n⟩])) := by
  obtain ⟨op, op2, ty, d, a, b, n, count, step⟩ := i
  simp only at hop
  subst hop
  have hbox : Blk ((w.alloc (.cells #[.int .i64 16, .int .i64 op2, .int .i64 ty, .int .i64 d, .int .i64 a, .int .i64 b, .int .i64 n, .int .i64 count, .int .i64 step] 23)).alloc (.cells #[.slice A hs.length hc, .int .i64 bs, .slice none 0 0] 69)) w.heap.size 23 #[.int .i64 16, .int .i64 op2, .int .i64 ty, .int .i64 d, .int .i64 a, .int .i64 b, .int .i64 n, .int .i64 count, .int .i64 step] := (Blk.newAt rfl).alloc _
  have hcho : RCho ((w.alloc (.cells #[.int .i64 16, .int .i64 op2, .int .i64 ty, .int .i64 d, .int .i64 a, .int .i64 b, .int .i64 n, .int .i64 count, .int .i64 step] 23)).alloc (.cells #[.slice A hs.length hc, .int .i64 bs, .slice none 0 0] 69)) (w.heap.size + 1) w.heap.size A hs hc bs (.slice none 0 0) [] :=
    ⟨Blk.newAt (by simp), World.ownsRow_nil _ _ _ _, hh.kept (S := fun _ => False) (((Keep.refl w _).alloc _).alloc _) (Nat.le_refl _) (fun _ _ h => h), by simp; omega, by omega, hm⟩
  have hb0 : Below w.heap.size w ((w.alloc (.cells #[.int .i64 16, .int .i64 op2, .int .i64 ty, .int .i64 d, .int .i64 a, .int .i64 b, .int .i64 n, .int .i64 count, .int .i64 step] 23)).alloc (.cells #[.slice A hs.length hc, .int .i64 bs, .slice none 0 0] 69)) := ((Below.refl _ _).alloc (Nat.le_refl _) _).alloc (by simp) _
  go_enter Tryd.func10, Tryd.ntmps10
  go_wp2_with fail
  have hra := readL_len hs bs a 6
  have hrb := readL_len hs bs b 7
  go_region_held3 (fun w' => w'.cell? ⟨w.heap.size, 4, none⟩ = some (.int .i64 a) ∧ w'.cell? ⟨w.heap.size, 6, none⟩ = some (.int .i64 n))
    (first
      | (refine ⟨cell_of_blk hbox2 (by rfl), cell_of_blk hbox2 (by rfl)⟩)
      | (refine ⟨cell_of_blk hbox1 (by rfl), cell_of_blk hbox1 (by rfl)⟩)
      | (refine ⟨cell_of_blk (by repeat (first | (with_reducible assumption) | (refine Blk.newAt ?_; simp; done) | (refine Blk.newAt ?_; rfl) | apply Blk.alloc | apply Blk.drew | apply Blk.drewN)) (by rfl), cell_of_blk (by repeat (first | (with_reducible assumption) | (refine Blk.newAt ?_; simp; done) | (refine Blk.newAt ?_; rfl) | apply Blk.alloc | apply Blk.drew | apply Blk.drewN)) (by rfl)⟩))
    (first
      | (go_at_call 45; refine (rread_any _ (w.heap.size + 1) w.heap.size A hs hc bs (.slice none 0 0) [] a 6 (by repeat (first | with_reducible exact hcho | apply RCho.drewN | apply RCho.drew | apply RCho.alloc)) (by simp)).mono ?_; rintro e w1 ⟨rfl, ov1, hl1, hs1⟩; have hbox1 := hs1.rblk (by repeat (first | with_reducible exact hcho | apply RCho.drewN | apply RCho.drew | apply RCho.alloc)) (k := w.heap.size) (t := 23) (cs := #[.int .i64 16, .int .i64 op2, .int .i64 ty, .int .i64 d, .int .i64 a, .int .i64 b, .int .i64 n, .int .i64 count, .int .i64 step]) (by repeat (first | (with_reducible assumption) | (refine Blk.newAt ?_; simp; done) | (refine Blk.newAt ?_; rfl) | apply Blk.alloc | apply Blk.drew | apply Blk.drewN)) (by decide) (.inl (by decide)))
      | (go_at_call 41; refine (radd_any _ (w.heap.size + 1) w.heap.size A hs hc bs ov1 _ 21 (readR hs a 6) 0 0 n hl1 (by simp; omega)).mono ?_; rintro e w2 ⟨rfl, ov2, hl2, hs2⟩; have hbox2 := hs2.rblk hl1 hbox1 (by decide) (.inl (by decide))))
  all_goals
    have y2 := hl2.blk.cell 2
    have hglt := hl2.blk.lt
    simp at y2
    go_wp2_with fail
    go_ret
    rw [show IntKind.u8.wrap 21 = 21 from by decide] at hl2
    exact ⟨ov2, rfl, by simpa using hl2.own, fin_below (CS.trans (CS.trans (by repeat (first  | exact CS.refl _ _ _ | apply CS.drewN | apply CS.drew | apply CS.alloc)) hs1) hs2) hb0 (by omega)⟩

set_option maxRecDepth 100000 in
set_option maxHeartbeats 6400000 in
theorem rsel_17 (w : World) (i : I9) (A : Option Addr) (hs : List HV) (hc : Nat) (bs : Int) (hh : RepH w w.heap.size A hs) (hm : hs.length < 1000000000000000000) (hop : i.op = 17) :
    Calls Tryd.prog 10 #[.agg #[.int .i64 i.op, .int .i64 i.op2, .int .i64 i.ty, .int .i64 i.d, .int .i64 i.a, .int .i64 i.b, .int .i64 i.n, .int .i64 i.count, .int .i64 i.step], .slice A hs.length hc, .int .i64 bs] w (Selects w ([⟨22, 0, 0, 0, wrap32 i.n⟩])) := by
  obtain ⟨op, op2, ty, d, a, b, n, count, step⟩ := i
  simp only at hop
  subst hop
  have hbox : Blk ((w.alloc (.cells #[.int .i64 17, .int .i64 op2, .int .i64 ty, .int .i64 d, .int .i64 a, .int .i64 b, .int .i64 n, .int .i64 count, .int .i64 step] 23)).alloc (.cells #[.slice A hs.length hc, .int .i64 bs, .slice none 0 0] 69)) w.heap.size 23 #[.int .i64 17, .int .i64 op2, .int .i64 ty, .int .i64 d, .int .i64 a, .int .i64 b, .int .i64 n, .int .i64 count, .int .i64 step] := (Blk.newAt rfl).alloc _
  have hcho : RCho ((w.alloc (.cells #[.int .i64 17, .int .i64 op2, .int .i64 ty, .int .i64 d, .int .i64 a, .int .i64 b, .int .i64 n, .int .i64 count, .int .i64 step] 23)).alloc (.cells #[.slice A hs.length hc, .int .i64 bs, .slice none 0 0] 69)) (w.heap.size + 1) w.heap.size A hs hc bs (.slice none 0 0) [] :=
    ⟨Blk.newAt (by simp), World.ownsRow_nil _ _ _ _, hh.kept (S := fun _ => False) (((Keep.refl w _).alloc _).alloc _) (Nat.le_refl _) (fun _ _ h => h), by simp; omega, by omega, hm⟩
  have hb0 : Below w.heap.size w ((w.alloc (.cells #[.int .i64 17, .int .i64 op2, .int .i64 ty, .int .i64 d, .int .i64 a, .int .i64 b, .int .i64 n, .int .i64 count, .int .i64 step] 23)).alloc (.cells #[.slice A hs.length hc, .int .i64 bs, .slice none 0 0] 69)) := ((Below.refl _ _).alloc (Nat.le_refl _) _).alloc (by simp) _
  go_enter Tryd.func10, Tryd.ntmps10
  go_wp2_with fail
  go_region_held3 (fun w' => w'.cell? ⟨w.heap.size, 0, none⟩ = some (.int .i64 17) ∧ w'.cell? ⟨w.heap.size, 6, none⟩ = some (.int .i64 n))
    (first
      | (refine ⟨cell_of_blk (by repeat (first | (with_reducible assumption) | (refine Blk.newAt ?_; simp; done) | (refine Blk.newAt ?_; rfl) | apply Blk.alloc | apply Blk.drew | apply Blk.drewN)) (by rfl), cell_of_blk (by repeat (first | (with_reducible assumption) | (refine Blk.newAt ?_; simp; done) | (refine Blk.newAt ?_; rfl) | apply Blk.alloc | apply Blk.drew | apply Blk.drewN)) (by rfl)⟩)
      | (refine ⟨cell_of_blk hbox1 (by rfl), cell_of_blk hbox1 (by rfl)⟩))
    (first
      | (go_at_call 42; refine (bare_17 _).mono ?_; rintro e w1 ⟨rfl, rfl⟩)
      | (go_at_call 41; refine (radd_any _ (w.heap.size + 1) w.heap.size A hs hc bs (.slice none 0 0) [] 22 0 0 0 n (by repeat (first | with_reducible exact hcho | apply RCho.drewN | apply RCho.drew | apply RCho.alloc)) (by simp)).mono ?_; rintro e w1 ⟨rfl, ov1, hl1, hs1⟩; have hbox1 := hs1.rblk (by repeat (first | with_reducible exact hcho | apply RCho.drewN | apply RCho.drew | apply RCho.alloc)) (k := w.heap.size) (t := 23) (cs := #[.int .i64 17, .int .i64 op2, .int .i64 ty, .int .i64 d, .int .i64 a, .int .i64 b, .int .i64 n, .int .i64 count, .int .i64 step]) (by repeat (first | (with_reducible assumption) | (refine Blk.newAt ?_; simp; done) | (refine Blk.newAt ?_; rfl) | apply Blk.alloc | apply Blk.drew | apply Blk.drewN)) (by decide) (.inl (by decide))))
  all_goals
    have y2 := hl1.blk.cell 2
    have hglt := hl1.blk.lt
    simp at y2
    go_wp2_with fail
    go_ret
    rw [show IntKind.u8.wrap 22 = 22 from by decide] at hl1
    exact ⟨ov1, rfl, by simpa using hl1.own, fin_below (CS.trans (by repeat (first  | exact CS.refl _ _ _ | apply CS.drewN | apply CS.drew | apply CS.alloc)) hs1) hb0 (by omega)⟩

set_option maxRecDepth 100000 in
set_option maxHeartbeats 6400000 in
theorem rsel_18 (w : World) (i : I9) (A : Option Addr) (hs : List HV) (hc : Nat) (bs : Int) (hh : RepH w w.heap.size A hs) (hm : hs.length < 1000000000000000000) (hop : i.op = 18) :
    Calls Tryd.prog 10 #[.agg #[.int .i64 i.op, .int .i64 i.op2, .int .i64 i.ty, .int .i64 i.d, .int .i64 i.a, .int .i64 i.b, .int .i64 i.n, .int .i64 i.count, .int .i64 i.step], .slice A hs.length hc, .int .i64 bs] w (Selects w ([⟨1, 0, 0, 0, wrap32 i.n⟩])) := by
  obtain ⟨op, op2, ty, d, a, b, n, count, step⟩ := i
  simp only at hop
  subst hop
  have hbox : Blk ((w.alloc (.cells #[.int .i64 18, .int .i64 op2, .int .i64 ty, .int .i64 d, .int .i64 a, .int .i64 b, .int .i64 n, .int .i64 count, .int .i64 step] 23)).alloc (.cells #[.slice A hs.length hc, .int .i64 bs, .slice none 0 0] 69)) w.heap.size 23 #[.int .i64 18, .int .i64 op2, .int .i64 ty, .int .i64 d, .int .i64 a, .int .i64 b, .int .i64 n, .int .i64 count, .int .i64 step] := (Blk.newAt rfl).alloc _
  have hcho : RCho ((w.alloc (.cells #[.int .i64 18, .int .i64 op2, .int .i64 ty, .int .i64 d, .int .i64 a, .int .i64 b, .int .i64 n, .int .i64 count, .int .i64 step] 23)).alloc (.cells #[.slice A hs.length hc, .int .i64 bs, .slice none 0 0] 69)) (w.heap.size + 1) w.heap.size A hs hc bs (.slice none 0 0) [] :=
    ⟨Blk.newAt (by simp), World.ownsRow_nil _ _ _ _, hh.kept (S := fun _ => False) (((Keep.refl w _).alloc _).alloc _) (Nat.le_refl _) (fun _ _ h => h), by simp; omega, by omega, hm⟩
  have hb0 : Below w.heap.size w ((w.alloc (.cells #[.int .i64 18, .int .i64 op2, .int .i64 ty, .int .i64 d, .int .i64 a, .int .i64 b, .int .i64 n, .int .i64 count, .int .i64 step] 23)).alloc (.cells #[.slice A hs.length hc, .int .i64 bs, .slice none 0 0] 69)) := ((Below.refl _ _).alloc (Nat.le_refl _) _).alloc (by simp) _
  go_enter Tryd.func10, Tryd.ntmps10
  go_wp2_with fail
  go_region_held3 (fun w' => w'.cell? ⟨w.heap.size, 0, none⟩ = some (.int .i64 18) ∧ w'.cell? ⟨w.heap.size, 6, none⟩ = some (.int .i64 n))
    (first
      | (refine ⟨cell_of_blk (by repeat (first | (with_reducible assumption) | (refine Blk.newAt ?_; simp; done) | (refine Blk.newAt ?_; rfl) | apply Blk.alloc | apply Blk.drew | apply Blk.drewN)) (by rfl), cell_of_blk (by repeat (first | (with_reducible assumption) | (refine Blk.newAt ?_; simp; done) | (refine Blk.newAt ?_; rfl) | apply Blk.alloc | apply Blk.drew | apply Blk.drewN)) (by rfl)⟩)
      | (refine ⟨cell_of_blk hbox1 (by rfl), cell_of_blk hbox1 (by rfl)⟩))
    (first
      | (go_at_call 42; refine (bare_18 _).mono ?_; rintro e w1 ⟨rfl, rfl⟩)
      | (go_at_call 41; refine (radd_any _ (w.heap.size + 1) w.heap.size A hs hc bs (.slice none 0 0) [] 1 0 0 0 n (by repeat (first | with_reducible exact hcho | apply RCho.drewN | apply RCho.drew | apply RCho.alloc)) (by simp)).mono ?_; rintro e w1 ⟨rfl, ov1, hl1, hs1⟩; have hbox1 := hs1.rblk (by repeat (first | with_reducible exact hcho | apply RCho.drewN | apply RCho.drew | apply RCho.alloc)) (k := w.heap.size) (t := 23) (cs := #[.int .i64 18, .int .i64 op2, .int .i64 ty, .int .i64 d, .int .i64 a, .int .i64 b, .int .i64 n, .int .i64 count, .int .i64 step]) (by repeat (first | (with_reducible assumption) | (refine Blk.newAt ?_; simp; done) | (refine Blk.newAt ?_; rfl) | apply Blk.alloc | apply Blk.drew | apply Blk.drewN)) (by decide) (.inl (by decide))))
  all_goals
    have y2 := hl1.blk.cell 2
    have hglt := hl1.blk.lt
    simp at y2
    go_wp2_with fail
    go_ret
    rw [show IntKind.u8.wrap 1 = 1 from by decide] at hl1
    exact ⟨ov1, rfl, by simpa using hl1.own, fin_below (CS.trans (by repeat (first  | exact CS.refl _ _ _ | apply CS.drewN | apply CS.drew | apply CS.alloc)) hs1) hb0 (by omega)⟩

set_option maxRecDepth 100000 in
set_option maxHeartbeats 6400000 in
theorem rsel_19 (w : World) (i : I9) (A : Option Addr) (hs : List HV) (hc : Nat) (bs : Int) (hh : RepH w w.heap.size A hs) (hm : hs.length < 1000000000000000000) (hop : i.op = 19) :
    Calls Tryd.prog 10 #[.agg #[.int .i64 i.op, .int .i64 i.op2, .int .i64 i.ty, .int .i64 i.d, .int .i64 i.a, .int .i64 i.b, .int .i64 i.n, .int .i64 i.count, .int .i64 i.step], .slice A hs.length hc, .int .i64 bs] w (Selects w ([⟨23, 0, 0, 0, wrap32 i.n⟩])) := by
  obtain ⟨op, op2, ty, d, a, b, n, count, step⟩ := i
  simp only at hop
  subst hop
  have hbox : Blk ((w.alloc (.cells #[.int .i64 19, .int .i64 op2, .int .i64 ty, .int .i64 d, .int .i64 a, .int .i64 b, .int .i64 n, .int .i64 count, .int .i64 step] 23)).alloc (.cells #[.slice A hs.length hc, .int .i64 bs, .slice none 0 0] 69)) w.heap.size 23 #[.int .i64 19, .int .i64 op2, .int .i64 ty, .int .i64 d, .int .i64 a, .int .i64 b, .int .i64 n, .int .i64 count, .int .i64 step] := (Blk.newAt rfl).alloc _
  have hcho : RCho ((w.alloc (.cells #[.int .i64 19, .int .i64 op2, .int .i64 ty, .int .i64 d, .int .i64 a, .int .i64 b, .int .i64 n, .int .i64 count, .int .i64 step] 23)).alloc (.cells #[.slice A hs.length hc, .int .i64 bs, .slice none 0 0] 69)) (w.heap.size + 1) w.heap.size A hs hc bs (.slice none 0 0) [] :=
    ⟨Blk.newAt (by simp), World.ownsRow_nil _ _ _ _, hh.kept (S := fun _ => False) (((Keep.refl w _).alloc _).alloc _) (Nat.le_refl _) (fun _ _ h => h), by simp; omega, by omega, hm⟩
  have hb0 : Below w.heap.size w ((w.alloc (.cells #[.int .i64 19, .int .i64 op2, .int .i64 ty, .int .i64 d, .int .i64 a, .int .i64 b, .int .i64 n, .int .i64 count, .int .i64 step] 23)).alloc (.cells #[.slice A hs.length hc, .int .i64 bs, .slice none 0 0] 69)) := ((Below.refl _ _).alloc (Nat.le_refl _) _).alloc (by simp) _
  go_enter Tryd.func10, Tryd.ntmps10
  go_wp2_with fail
  go_region_held3 (fun w' => w'.cell? ⟨w.heap.size, 0, none⟩ = some (.int .i64 19) ∧ w'.cell? ⟨w.heap.size, 6, none⟩ = some (.int .i64 n))
    (first
      | (refine ⟨cell_of_blk (by repeat (first | (with_reducible assumption) | (refine Blk.newAt ?_; simp; done) | (refine Blk.newAt ?_; rfl) | apply Blk.alloc | apply Blk.drew | apply Blk.drewN)) (by rfl), cell_of_blk (by repeat (first | (with_reducible assumption) | (refine Blk.newAt ?_; simp; done) | (refine Blk.newAt ?_; rfl) | apply Blk.alloc | apply Blk.drew | apply Blk.drewN)) (by rfl)⟩)
      | (refine ⟨cell_of_blk hbox1 (by rfl), cell_of_blk hbox1 (by rfl)⟩))
    (first
      | (go_at_call 42; refine (bare_19 _).mono ?_; rintro e w1 ⟨rfl, rfl⟩)
      | (go_at_call 41; refine (radd_any _ (w.heap.size + 1) w.heap.size A hs hc bs (.slice none 0 0) [] 23 0 0 0 n (by repeat (first | with_reducible exact hcho | apply RCho.drewN | apply RCho.drew | apply RCho.alloc)) (by simp)).mono ?_; rintro e w1 ⟨rfl, ov1, hl1, hs1⟩; have hbox1 := hs1.rblk (by repeat (first | with_reducible exact hcho | apply RCho.drewN | apply RCho.drew | apply RCho.alloc)) (k := w.heap.size) (t := 23) (cs := #[.int .i64 19, .int .i64 op2, .int .i64 ty, .int .i64 d, .int .i64 a, .int .i64 b, .int .i64 n, .int .i64 count, .int .i64 step]) (by repeat (first | (with_reducible assumption) | (refine Blk.newAt ?_; simp; done) | (refine Blk.newAt ?_; rfl) | apply Blk.alloc | apply Blk.drew | apply Blk.drewN)) (by decide) (.inl (by decide))))
  all_goals
    have y2 := hl1.blk.cell 2
    have hglt := hl1.blk.lt
    simp at y2
    go_wp2_with fail
    go_ret
    rw [show IntKind.u8.wrap 23 = 23 from by decide] at hl1
    exact ⟨ov1, rfl, by simpa using hl1.own, fin_below (CS.trans (by repeat (first  | exact CS.refl _ _ _ | apply CS.drewN | apply CS.drew | apply CS.alloc)) hs1) hb0 (by omega)⟩

set_option maxRecDepth 100000 in
set_option maxHeartbeats 6400000 in
theorem rsel_none (w : World) (i : I9) (A : Option Addr) (hs : List HV) (hc : Nat) (bs : Int) (hop : i.op < 0 ∨ 19 < i.op) :
    Calls Tryd.prog 10 #[.agg #[.int .i64 i.op, .int .i64 i.op2, .int .i64 i.ty, .int .i64 i.d, .int .i64 i.a, .int .i64 i.b, .int .i64 i.n, .int .i64 i.count, .int .i64 i.step], .slice A hs.length hc, .int .i64 bs] w (Selects w []) := by
  obtain ⟨op, op2, ty, d, a, b, n, count, step⟩ := i
  simp only at hop ⊢
  have t0 : (op == 0) = false := by simp; omega
  have t1 : (op == 1) = false := by simp; omega
  have t2 : (op == 2) = false := by simp; omega
  have t3 : (op == 3) = false := by simp; omega
  have t4 : (op == 4) = false := by simp; omega
  have t5 : (op == 5) = false := by simp; omega
  have t6 : (op == 6) = false := by simp; omega
  have t7 : (op == 7) = false := by simp; omega
  have t8 : (op == 8) = false := by simp; omega
  have t9 : (op == 9) = false := by simp; omega
  have t10 : (op == 10) = false := by simp; omega
  have t11 : (op == 11) = false := by simp; omega
  have t12 : (op == 12) = false := by simp; omega
  have t13 : (op == 13) = false := by simp; omega
  have t14 : (op == 14) = false := by simp; omega
  have t15 : (op == 15) = false := by simp; omega
  have t16 : (op == 16) = false := by simp; omega
  have t17 : (op == 17) = false := by simp; omega
  have t18 : (op == 18) = false := by simp; omega
  have t19 : (op == 19) = false := by simp; omega
  clear hop
  go_enter Tryd.func10, Tryd.ntmps10
  go_wp2_with fail
  go_ret
  exact ⟨.slice none 0 0, rfl, World.ownsRow_nil _ _ _ _, ((Below.refl _ _).alloc (Nat.le_refl _) _).alloc (by simp) _⟩

theorem rselect_any (w : World) (i : I9) (A : Option Addr) (hs : List HV) (hc : Nat) (bs : Int) (hh : RepH w w.heap.size A hs) (hm : hs.length < 1000000000000000000) :
    Calls Tryd.prog 10 #[.agg #[.int .i64 i.op, .int .i64 i.op2, .int .i64 i.ty, .int .i64 i.d, .int .i64 i.a, .int .i64 i.b, .int .i64 i.n, .int .i64 i.count, .int .i64 i.step], .slice A hs.length hc, .int .i64 bs] w (Selects w (selL i hs bs)) := by
  by_cases h0 : i.op = 0
  · have e : selL i hs bs = [⟨0, 0, 0, 0, wrap32 i.n⟩] := by simp [selL, h0]
    rw [e]
    exact rsel_0 w i A hs hc bs hh hm h0
  by_cases h1 : i.op = 1
  · have e : selL i hs bs = makeL hs bs i.d ⟨2, 0, 0, 0, wrap32 i.n⟩ := by simp [selL, h1]
    rw [e]
    exact rsel_1 w i A hs hc bs hh hm h1
  by_cases h2 : i.op = 2
  · have e : selL i hs bs = moveL i hs bs := by simp [selL, h2]
    rw [e]
    exact rsel_2 w i A hs hc bs hh hm h2
  by_cases h3 : i.op = 3
  · have e : selL i hs bs = readL hs bs i.a 6 ++ (readL hs bs i.b 7 ++ makeL hs bs i.d ⟨4, 0, readR hs i.a 6, readR hs i.b 7, wrap32 (wrap64 (wrap64 (i.op2 * 4) + i.ty))⟩) := by simp [selL, h3]
    rw [e]
    exact rsel_3 w i A hs hc bs hh hm h3
  by_cases h4 : i.op = 4
  · have e : selL i hs bs = readL hs bs i.a 6 ++ makeL hs bs i.d ⟨5, 0, readR hs i.a 6, 0, wrap32 (wrap64 (wrap64 (i.op2 * 4) + i.ty))⟩ := by simp [selL, h4]
    rw [e]
    exact rsel_4 w i A hs hc bs hh hm h4
  by_cases h5 : i.op = 5
  · have e : selL i hs bs = makeL hs bs i.d ⟨6, 0, 0, 0, wrap32 i.n⟩ := by simp [selL, h5]
    rw [e]
    exact rsel_5 w i A hs hc bs hh hm h5
  by_cases h6 : i.op = 6
  · have e : selL i hs bs = readL hs bs i.a 6 ++ [⟨7, readR hs i.a 6, 0, 0, wrap32 i.n⟩] := by simp [selL, h6]
    rw [e]
    exact rsel_6 w i A hs hc bs hh hm h6
  by_cases h7 : i.op = 7
  · have e : selL i hs bs = readL hs bs i.a 6 ++ makeL hs bs i.d ⟨8, 0, readR hs i.a 6, 0, wrap32 (wrap64 (wrap64 (i.n * 128) + i.count))⟩ := by simp [selL, h7]
    rw [e]
    exact rsel_7 w i A hs hc bs hh hm h7
  by_cases h8 : i.op = 8
  · have e : selL i hs bs = readL hs bs i.a 6 ++ (readL hs bs i.b 7 ++ [⟨9, readR hs i.b 7, readR hs i.a 6, 0, wrap32 (wrap64 (wrap64 (i.n * 128) + i.count))⟩]) := by simp [selL, h8]
    rw [e]
    exact rsel_8 w i A hs hc bs hh hm h8
  by_cases h9 : i.op = 9
  · have e : selL i hs bs = makeL hs bs i.d ⟨10, 0, 0, 0, wrap32 i.n⟩ := by simp [selL, h9]
    rw [e]
    exact rsel_9 w i A hs hc bs hh hm h9
  by_cases h10 : i.op = 10
  · have e : selL i hs bs = readL hs bs i.a 6 ++ [⟨11, readR hs i.a 6, 0, 0, wrap32 i.n⟩] := by simp [selL, h10]
    rw [e]
    exact rsel_10 w i A hs hc bs hh hm h10
  by_cases h11 : i.op = 11
  · have e : selL i hs bs = readL hs bs i.a 6 ++ [⟨14, readR hs i.a 6, 0, 0, wrap32 i.n⟩] := by simp [selL, h11]
    rw [e]
    exact rsel_11 w i A hs hc bs hh hm h11
  by_cases h12 : i.op = 12
  · have e : selL i hs bs = [⟨15, 0, 0, 0, wrap32 i.n⟩] := by simp [selL, h12]
    rw [e]
    exact rsel_12 w i A hs hc bs hh hm h12
  by_cases h13 : i.op = 13
  · have e : selL i hs bs = makeL hs bs i.d ⟨19, 0, 0, 0, 0⟩ := by simp [selL, h13]
    rw [e]
    exact rsel_13 w i A hs hc bs hh hm h13
  by_cases h14 : i.op = 14
  · have e : selL i hs bs = readL hs bs i.a 6 ++ [⟨17, readR hs i.a 6, 0, 0, wrap32 i.n⟩] := by simp [selL, h14]
    rw [e]
    exact rsel_14 w i A hs hc bs hh hm h14
  by_cases h15 : i.op = 15
  · have e : selL i hs bs = [⟨20, 0, 0, 0, wrap32 i.n⟩] := by simp [selL, h15]
    rw [e]
    exact rsel_15 w i A hs hc bs hh hm h15
  by_cases h16 : i.op = 16
  · have e : selL i hs bs = readL hs bs i.a 6 ++ [⟨21, readR hs i.a 6, 0, 0, wrap32 i.n⟩] := by simp [selL, h16]
    rw [e]
    exact rsel_16 w i A hs hc bs hh hm h16
  by_cases h17 : i.op = 17
  · have e : selL i hs bs = [⟨22, 0, 0, 0, wrap32 i.n⟩] := by simp [selL, h17]
    rw [e]
    exact rsel_17 w i A hs hc bs hh hm h17
  by_cases h18 : i.op = 18
  · have e : selL i hs bs = [⟨1, 0, 0, 0, wrap32 i.n⟩] := by simp [selL, h18]
    rw [e]
    exact rsel_18 w i A hs hc bs hh hm h18
  by_cases h19 : i.op = 19
  · have e : selL i hs bs = [⟨23, 0, 0, 0, wrap32 i.n⟩] := by simp [selL, h19]
    rw [e]
    exact rsel_19 w i A hs hc bs hh hm h19
  have e : selL i hs bs = [] := by simp [selL, h0, h1, h2, h3, h4, h5, h6, h7, h8, h9, h10, h11, h12, h13, h14, h15, h16, h17, h18, h19]
  rw [e]
  exact rsel_none w i A hs hc bs (by omega)
end Go.Proofs.YthkiajbgdamjgaaDoor

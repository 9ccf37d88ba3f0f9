/- LowerKnown: the chapter's examples, and each kind of step, hold. -/
import Derived.Test.YtekciedoldiieaaLowMade
import Derived.Deep.DeepCutAuto
namespace Go.Proofs.Ytekciedoldiieaa
open Go.RowKit

attribute [local irreducible] Blk
theorem rep_leaf (w : World) (B : Nat) (op n ty ref : Int) : Rep w B (.leaf op n ty ref) [.int .i64 op, .int .i64 0, .string ⟨#[]⟩, .string ⟨#[]⟩, .int .i64 n, .int .i64 ty, .int .i64 ref, .slice none 0 0] :=
  ⟨0, ⟨#[]⟩, ⟨#[]⟩, none, 0, rfl⟩
theorem rep_un {w : World} {k : Nat} {x : EV} {cx : List Value} (op n ty ref : Int) (hb : Blk w k 25 cx.toArray) (hx : Rep w w.heap.size x cx) :
    Rep w w.heap.size (.un op n ty ref x) [.int .i64 op, .int .i64 0, .string ⟨#[]⟩, .string ⟨#[]⟩, .int .i64 n, .int .i64 ty, .int .i64 ref, .slice (some ⟨k, 0, none⟩) 1 1] :=
  ⟨0, ⟨#[]⟩, ⟨#[]⟩, k, 0, 1, rfl, hb.lt, cx, hx, fun i u hi => by rw [Nat.zero_add, hb.cell]; simpa using hi⟩
theorem Rep.len {w : World} {B : Nat} {x : EV} {cx : List Value} (h : Rep w B x cx) : cx.length = 8 := by
  obtain ⟨_, _, _, _, _, _, _, _, _, rfl⟩ := h.form
  rfl
theorem rep_bin {w : World} {k : Nat} {x y : EV} {cx cy : List Value} (op n ty ref : Int) (hb : Blk w k 25 (cx ++ cy).toArray) (hx : Rep w w.heap.size x cx) (hy : Rep w w.heap.size y cy) :
    Rep w w.heap.size (.bin op n ty ref x y) [.int .i64 op, .int .i64 0, .string ⟨#[]⟩, .string ⟨#[]⟩, .int .i64 n, .int .i64 ty, .int .i64 ref, .slice (some ⟨k, 0, none⟩) 2 2] := by
  refine ⟨0, ⟨#[]⟩, ⟨#[]⟩, k, 0, 2, rfl, hb.lt, cx, cy, hx, hy, fun i u hi => ?_, fun i u hi => ?_⟩
  · have hl := (List.getElem?_eq_some_iff.1 hi).1
    rw [Nat.zero_add, hb.cell]
    simpa [List.getElem?_append_left hl] using hi
  · rw [hb.cell]
    have h8 := hx.len
    have : (cx ++ cy)[0 + 8 + i]? = some u := by rw [List.getElem?_append_right (by omega), show 0 + 8 + i - cx.length = i from by omega]; exact hi
    simpa using this
theorem reps_none (w : World) (B : Nat) (A : Option Addr) : RepEs w B A [] := fun h => absurd rfl h
theorem reps_one {w : World} {k : Nat} {x : EV} {cx : List Value} (hb : Blk w k 25 cx.toArray) (hx : Rep w w.heap.size x cx) : RepEs w w.heap.size (some ⟨k, 0, none⟩) [x] := fun _ => by
  refine ⟨k, 0, rfl, hb.lt, fun j e hj => ?_⟩
  rcases j with _ | j
  · simp at hj
    subst hj
    exact ⟨cx, hx, fun i u hi => by rw [Nat.mul_zero, Nat.zero_add, hb.cell]; simpa using hi⟩
  · simp at hj
theorem reps_two {w : World} {k : Nat} {x y : EV} {cx cy : List Value} (hb : Blk w k 25 (cx ++ cy).toArray) (hx : Rep w w.heap.size x cx) (hy : Rep w w.heap.size y cy) : RepEs w w.heap.size (some ⟨k, 0, none⟩) [x, y] := fun _ => by
  refine ⟨k, 0, rfl, hb.lt, fun j e hj => ?_⟩
  rcases j with _ | _ | j
  · simp at hj
    subst hj
    refine ⟨cx, hx, fun i u hi => ?_⟩
    have hl := (List.getElem?_eq_some_iff.1 hi).1
    rw [Nat.mul_zero, Nat.zero_add, hb.cell]
    simpa [List.getElem?_append_left hl] using hi
  · simp at hj
    subst hj
    refine ⟨cy, hy, fun i u hi => ?_⟩
    have h8 := hx.len
    rw [hb.cell]
    have : (cx ++ cy)[0 + 8 * (0 + 1) + i]? = some u := by rw [List.getElem?_append_right (by omega), show 0 + 8 * (0 + 1) + i - cx.length = i from by omega]; exact hi
    simpa using this
  · simp at hj
theorem bel_step {w W w' : World} (h : Below w.heap.size w W) (hb : Below W.heap.size W w') : Below w.heap.size w w' := h.trans (hb.mono h.size)
theorem bel_alloc {w W : World} (h : Below w.heap.size w W) (o : Obj) : Below w.heap.size w (W.alloc o) := h.alloc h.size o
theorem bel_drew {w W : World} (h : Below w.heap.size w W) : Below w.heap.size w W.drew := h.drew
theorem keepBlk {B : Nat} {w w' : World} {g : Nat} {t : TypeId} {cs : Array Value} (hb : Below B w w') (hB : B = w.heap.size) (h : Blk w g t cs) : Blk w' g t cs := h.below hb (hB ▸ h.lt)

set_option maxRecDepth 100000 in
theorem x_any (w : World) : Calls Try.prog 5 #[] w fun e w' => e = .returned (.agg #[.int .i64 26, .int .i64 0, .string ⟨#[]⟩, .string ⟨#[]⟩, .int .i64 0, .int .i64 2, .int .i64 0, .slice none 0 0]) ∧ w.alloc (.cells #[.int .i64 26, .int .i64 0, .string ⟨#[]⟩, .string ⟨#[]⟩, .int .i64 0, .int .i64 2, .int .i64 0, .slice none 0 0] 25) = w' := by
  go_enter Try.func5, Try.ntmps5
  go_wp2
  exact bodyPost_ret (v := .agg #[.int .i64 26, .int .i64 0, .string ⟨#[]⟩, .string ⟨#[]⟩, .int .i64 0, .int .i64 2, .int .i64 0, .slice none 0 0]) (by simp [results, Try.results5, go_sem]) rfl ⟨rfl, rfl⟩

set_option maxRecDepth 100000 in
set_option maxHeartbeats 6400000 in
theorem works_any (w : World) : Calls Try.prog 4 #[] w fun e w' => e = .returned (.bool true) ∧ Below w.heap.size w w' := by
  go_enter Try.func4, Try.ntmps4
  go_upto_region 2 with fail
  go_cut [2] (fun s2 wx => ∃ kb ks : Nat, s2 = .pointer (some ⟨ks, 0, none⟩) ∧ Blk wx ks 25 #[.int .i64 12, .int .i64 0, .string ⟨#[]⟩, .string ⟨#[]⟩, .int .i64 0, .int .i64 2, .int .i64 0, .slice (some ⟨kb, 0, none⟩) 2 2] ∧ Blk wx kb 25 #[.int .i64 26, .int .i64 0, .string ⟨#[]⟩, .string ⟨#[]⟩, .int .i64 0, .int .i64 2, .int .i64 0, .slice none 0 0, .int .i64 0, .int .i64 0, .string ⟨#[]⟩, .string ⟨#[]⟩, .int .i64 3, .int .i64 2, .int .i64 0, .slice none 0 0] ∧ Below w.heap.size w wx)
  case first =>
    have hk0 : w.heap.size ≠ w.heap.size + 1 := by omega
    go_region_held3 (fun w' => w'.cell? ⟨w.heap.size, 0, none⟩ = some (.int .i64 0) ∧ w'.cell? ⟨w.heap.size, 1, none⟩ = some (.int .i64 0) ∧ w'.cell? ⟨w.heap.size, 2, none⟩ = some (.string ⟨#[]⟩) ∧ w'.cell? ⟨w.heap.size, 3, none⟩ = some (.string ⟨#[]⟩) ∧ w'.cell? ⟨w.heap.size, 4, none⟩ = some (.int .i64 3) ∧ w'.cell? ⟨w.heap.size, 5, none⟩ = some (.int .i64 2) ∧ w'.cell? ⟨w.heap.size, 6, none⟩ = some (.int .i64 0) ∧ w'.cell? ⟨w.heap.size, 7, none⟩ = some (.slice none 0 0))
      (first
        | (go_keep; done))
      (first
        | (go_at_call 5; refine (x_any _).mono ?_; rintro e w2 ⟨rfl, rfl⟩))
    all_goals
      go_wp2_with fail
      go_meet
      refine ⟨_, _, rfl, (by repeat (first | assumption | (refine Blk.newAt ?_; simp; done) | (refine Blk.newAt ?_; rfl) | apply Blk.alloc | apply Blk.drew)), (by repeat (first | assumption | (refine Blk.newAt ?_; simp; done) | (refine Blk.newAt ?_; rfl) | apply Blk.alloc | apply Blk.drew)), ?_⟩
      repeat (first | exact Below.refl _ _ | apply bel_alloc | apply bel_drew)
  case rest =>
    obtain ⟨kb, ks, rfl, bs, bb, hbel⟩ := hcut
    have q0 := bs.cell 0
    have q1 := bs.cell 1
    have q2 := bs.cell 2
    have q3 := bs.cell 3
    have q4 := bs.cell 4
    have q5 := bs.cell 5
    have q6 := bs.cell 6
    have q7 := bs.cell 7
    simp at q0 q1 q2 q3 q4 q5 q6 q7
    go_wp2_with fail
    refine (made_yes _ ⟨0, 0, 0, -1, 0, 0, [.bin 12 0 2 0 (.leaf 26 0 2 0) (.leaf 0 3 2 0)], 0, 0, 1, -1⟩ _ _ _ [⟨0, 0, 0, 0, 0, 0, 0, 0, 0⟩, ⟨1, 0, 0, 1, 0, 0, 3, 0, 0⟩, ⟨3, 12, 2, 2, 0, 1, 0, 0, 0⟩, ⟨2, 0, 0, 0, 2, 0, 0, 0, 0⟩] _ 3 (reps_one (by repeat (first | assumption | (refine Blk.newAt ?_; simp; done) | (refine Blk.newAt ?_; rfl) | apply Blk.alloc | apply Blk.drew)) (rep_bin (cx := [.int .i64 26, .int .i64 0, .string ⟨#[]⟩, .string ⟨#[]⟩, .int .i64 0, .int .i64 2, .int .i64 0, .slice none 0 0]) (cy := [.int .i64 0, .int .i64 0, .string ⟨#[]⟩, .string ⟨#[]⟩, .int .i64 3, .int .i64 2, .int .i64 0, .slice none 0 0]) 12 0 2 0 (by repeat (first | assumption | (refine Blk.newAt ?_; simp; done) | (refine Blk.newAt ?_; rfl) | apply Blk.alloc | apply Blk.drew)) (rep_leaf _ _ 26 0 2 0) (rep_leaf _ _ 0 3 2 0))) (by simp [SV.ok, setPre, EV.ok]) (by simp) (by simp [SV.most, room, EV.size]) (Reads9.of_blk (by repeat (first | assumption | (refine Blk.newAt ?_; simp; done) | (refine Blk.newAt ?_; rfl) | apply Blk.alloc | apply Blk.drew))) (by kernel_rfl)).mono ?_; rintro e w2 ⟨rfl, hb_w2⟩; have acc_w2 := bel_step (w := w) (by repeat (first | assumption | apply bel_alloc | apply bel_drew)) hb_w2
    go_wp2_with fail
    refine (x_any _).mono ?_; rintro e w3 ⟨rfl, rfl⟩
    go_wp2_with fail
    refine (made_yes _ ⟨4, 0, -1, -1, 0, 0, [.leaf 26 0 2 0], 0, 0, 1, 5⟩ _ _ _ [⟨0, 0, 0, 0, 0, 0, 0, 0, 0⟩, ⟨16, 0, 0, 0, 0, 0, 5, 0, 0⟩] _ 1 (reps_one (by repeat (first | assumption | (refine Blk.newAt ?_; simp; done) | (refine Blk.newAt ?_; rfl) | apply Blk.alloc | apply Blk.drew)) (rep_leaf _ _ 26 0 2 0)) (by simp [SV.ok, setPre, EV.ok]) (by simp) (by simp [SV.most, room, EV.size]) (Reads9.of_blk (by repeat (first | assumption | (refine Blk.newAt ?_; simp; done) | (refine Blk.newAt ?_; rfl) | apply Blk.alloc | apply Blk.drew))) (by kernel_rfl)).mono ?_; rintro e w4 ⟨rfl, hb_w4⟩; have acc_w4 := bel_step (w := w) (by repeat (first | assumption | apply bel_alloc | apply bel_drew)) hb_w4
    go_wp2_with fail
    refine (made_yes _ ⟨9, 0, -1, -1, 0, 0, [], 0, 0, -1, -1⟩ _ _ _ [⟨0, 0, 0, 0, 0, 0, 0, 0, 0⟩, ⟨1, 0, 0, 1, 0, 0, 0, 0, 0⟩, ⟨14, 0, 0, 0, 1, 0, 0, 0, 0⟩] _ 2 (reps_none _ _ _) (by simp [SV.ok, setPre, EV.ok]) (by simp) (by simp [SV.most, room, EV.size]) (Reads9.of_blk (by repeat (first | assumption | (refine Blk.newAt ?_; simp; done) | (refine Blk.newAt ?_; rfl) | apply Blk.alloc | apply Blk.drew))) (by kernel_rfl)).mono ?_; rintro e w5 ⟨rfl, hb_w5⟩; have acc_w5 := bel_step (w := w) (by repeat (first | assumption | apply bel_alloc | apply bel_drew)) hb_w5
    go_wp2_with fail
    go_ret
    exact ⟨rfl, acc_w5⟩

end Go.Proofs.Ytekciedoldiieaa

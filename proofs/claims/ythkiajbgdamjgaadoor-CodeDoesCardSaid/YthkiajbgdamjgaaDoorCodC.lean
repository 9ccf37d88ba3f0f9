/- Package code: Pack, the methods that read registers, move. -/
import Derived.Test.YthkiajbgdamjgaaDoorCodB
namespace Go.Proofs.YthkiajbgdamjgaaDoor
open Go.RowKit

set_option maxRecDepth 100000 in
set_option maxHeartbeats 6400000 in
theorem pack_any (w : World) (h s l : Int) : Calls Tryd.prog 15 #[.int .i64 h, .int .i64 s, .int .i64 l] w fun e w' => e = .returned (.int .i32 (wrap32 (wrap64 (wrap64 (h * s) + l)))) ∧ w = w' := by
  go_enter Tryd.func15, Tryd.ntmps15
  go_wp2
  go_ret
  exact ⟨rfl, rfl⟩

set_option maxRecDepth 100000 in
set_option maxHeartbeats 6400000 in
theorem of_any (w : World) (g base : Nat) (i : I9) (A : Option Addr) (hs : List HV) (hc : Nat) (bs : Int) (ov : Value) (out : List C5) (op : Int) (hl : Cho w g base i A hs hc bs ov out) (hn : out.length < 1000000) :
    Calls Tryd.prog 61 #[.pointer (some ⟨g, 0, none⟩), .int .u8 op] w fun e w' => e = .returned (.tuple #[]) ∧
      ∃ ov', Cho w' g base i A hs hc bs ov' (out ++ (readL hs bs i.a 6 ++ [⟨op, readR hs i.a 6, 0, 0, wrap32 i.n⟩])) ∧ CS w w' g ov ov' := by
  have hglt := hl.blk.lt
  have l4 := hl.blk.cell 4
  simp at l4
  have hrl := readL_len hs bs i.a 6
  go_enter Tryd.func61, Tryd.ntmps61
  go_wp2_with fail
  refine (read_any _ g base i A hs hc bs ov out i.a 6 hl (by omega)).mono ?_
  rintro e w1 ⟨rfl, ov1, hl1, hs1⟩
  go_wp2_with fail
  refine (n_any _ g base i A hs hc bs ov1 _ hl1).mono ?_
  rintro e w2 ⟨rfl, rfl⟩
  go_wp2_with fail
  refine (add_any _ g _ base i A hs hc bs ov1 _ [⟨op, readR hs i.a 6, 0, 0, wrap32 i.n⟩] _ (by repeat (first | with_reducible exact hl1 | apply Cho.drewN | apply Cho.drew | apply Cho.alloc)) (by repeat (first | (with_reducible assumption) | (refine Blk.newAt ?_; simp; done) | (refine Blk.newAt ?_; rfl) | apply Blk.alloc | apply Blk.drew | apply Blk.drewN)) (by simp) (by simp; omega)).mono ?_
  rintro e w2 ⟨rfl, ov2, hl2, hs2⟩
  go_wp2_with fail
  go_end0
  exact ⟨rfl, ov2, by simpa using hl2, CS.trans (by repeat (first | with_reducible exact hs1 | exact CS.refl _ _ _ | apply CS.drewN | apply CS.drew | apply CS.alloc)) hs2⟩

set_option maxRecDepth 100000 in
set_option maxHeartbeats 6400000 in
theorem store_any : ChoSaid 36 (fun i hs bs => readL hs bs i.a 6 ++ [⟨7, readR hs i.a 6, 0, 0, wrap32 i.n⟩]) := by
  intro w g base i A hs hc bs ov out hl hn
  go_enter Tryd.func36, Tryd.ntmps36
  go_wp2_with fail
  refine (of_any _ g base i A hs hc bs ov out 7 hl hn).mono ?_
  rintro e w2 ⟨rfl, ov2, hl2, hs2⟩
  go_wp2_with fail
  go_end0
  exact ⟨rfl, ov2, hl2, hs2⟩

set_option maxRecDepth 100000 in
set_option maxHeartbeats 6400000 in
theorem out1_any : ChoSaid 37 (fun i hs bs => readL hs bs i.a 6 ++ [⟨11, readR hs i.a 6, 0, 0, wrap32 i.n⟩]) := by
  intro w g base i A hs hc bs ov out hl hn
  go_enter Tryd.func37, Tryd.ntmps37
  go_wp2_with fail
  refine (of_any _ g base i A hs hc bs ov out 11 hl hn).mono ?_
  rintro e w2 ⟨rfl, ov2, hl2, hs2⟩
  go_wp2_with fail
  go_end0
  exact ⟨rfl, ov2, hl2, hs2⟩

set_option maxRecDepth 100000 in
set_option maxHeartbeats 6400000 in
theorem arg_any : ChoSaid 38 (fun i hs bs => readL hs bs i.a 6 ++ [⟨14, readR hs i.a 6, 0, 0, wrap32 i.n⟩]) := by
  intro w g base i A hs hc bs ov out hl hn
  go_enter Tryd.func38, Tryd.ntmps38
  go_wp2_with fail
  refine (of_any _ g base i A hs hc bs ov out 14 hl hn).mono ?_
  rintro e w2 ⟨rfl, ov2, hl2, hs2⟩
  go_wp2_with fail
  go_end0
  exact ⟨rfl, ov2, hl2, hs2⟩

set_option maxRecDepth 100000 in
set_option maxHeartbeats 6400000 in
theorem jumpZ_any : ChoSaid 39 (fun i hs bs => readL hs bs i.a 6 ++ [⟨21, readR hs i.a 6, 0, 0, wrap32 i.n⟩]) := by
  intro w g base i A hs hc bs ov out hl hn
  go_enter Tryd.func39, Tryd.ntmps39
  go_wp2_with fail
  refine (of_any _ g base i A hs hc bs ov out 21 hl hn).mono ?_
  rintro e w2 ⟨rfl, ov2, hl2, hs2⟩
  go_wp2_with fail
  go_end0
  exact ⟨rfl, ov2, hl2, hs2⟩

set_option maxRecDepth 100000 in
set_option maxHeartbeats 6400000 in
theorem back_any : ChoSaid 40 (fun i hs bs => readL hs bs i.a 6 ++ [⟨17, readR hs i.a 6, 0, 0, wrap32 i.n⟩]) := by
  intro w g base i A hs hc bs ov out hl hn
  go_enter Tryd.func40, Tryd.ntmps40
  go_wp2_with fail
  refine (of_any _ g base i A hs hc bs ov out 17 hl hn).mono ?_
  rintro e w2 ⟨rfl, ov2, hl2, hs2⟩
  go_wp2_with fail
  go_end0
  exact ⟨rfl, ov2, hl2, hs2⟩

set_option maxRecDepth 100000 in
set_option maxHeartbeats 6400000 in
theorem loadX_any : ChoSaid 34 (fun i hs bs => readL hs bs i.a 6 ++ makeL hs bs i.d ⟨8, 0, readR hs i.a 6, 0, wrap32 (wrap64 (wrap64 (i.n * 128) + i.count))⟩) := by
  intro w g base i A hs hc bs ov out hl hn
  have hglt := hl.blk.lt
  have l4 := hl.blk.cell 4
  simp at l4
  have hrl := readL_len hs bs i.a 6
  go_enter Tryd.func34, Tryd.ntmps34
  go_wp2_with fail
  refine (read_any _ g base i A hs hc bs ov out i.a 6 hl (by omega)).mono ?_
  rintro e w1 ⟨rfl, ov1, hl1, hs1⟩
  go_wp2_with fail
  refine (cell_any _ g base i A hs hc bs ov1 _ hl1).mono ?_
  rintro e w2 ⟨rfl, k, rfl⟩
  go_wp2_with fail
  refine (make_any _ g base i A hs hc bs ov1 _ ⟨8, 0, readR hs i.a 6, 0, wrap32 (wrap64 (wrap64 (i.n * 128) + i.count))⟩ (by repeat (first | with_reducible exact hl1 | apply Cho.drewN | apply Cho.drew | apply Cho.alloc)) (by simp; omega)).mono ?_
  rintro e w2 ⟨rfl, ov2, hl2, hs2⟩
  go_wp2_with fail
  go_end0
  exact ⟨rfl, ov2, by simpa using hl2, CS.trans (by repeat (first | with_reducible exact hs1 | exact CS.refl _ _ _ | apply CS.drewN | apply CS.drew | apply CS.alloc)) hs2⟩

set_option maxRecDepth 100000 in
set_option maxHeartbeats 6400000 in
theorem storeX_any : ChoSaid 35 (fun i hs bs => readL hs bs i.a 6 ++ (readL hs bs i.b 7 ++ [⟨9, readR hs i.b 7, readR hs i.a 6, 0, wrap32 (wrap64 (wrap64 (i.n * 128) + i.count))⟩])) := by
  intro w g base i A hs hc bs ov out hl hn
  have hglt := hl.blk.lt
  have l4 := hl.blk.cell 4
  simp at l4
  have hrl := readL_len hs bs i.a 6
  have hrl2 := readL_len hs bs i.b 7
  go_enter Tryd.func35, Tryd.ntmps35
  go_wp2_with fail
  refine (read_any _ g base i A hs hc bs ov out i.a 6 hl (by omega)).mono ?_
  rintro e w1 ⟨rfl, ov1, hl1, hs1⟩
  have hglt1 := hl1.blk.lt
  have m5 := hl1.blk.cell 5
  simp at m5
  go_wp2_with fail
  refine (read_any _ g base i A hs hc bs ov1 _ i.b 7 hl1 (by simp; omega)).mono ?_
  rintro e w2 ⟨rfl, ov2, hl2, hs2⟩
  go_wp2_with fail
  refine (cell_any _ g base i A hs hc bs ov2 _ hl2).mono ?_
  rintro e w3 ⟨rfl, k, rfl⟩
  go_wp2_with fail
  refine (add_any _ g _ base i A hs hc bs ov2 _ [⟨9, readR hs i.b 7, readR hs i.a 6, 0, wrap32 (wrap64 (wrap64 (i.n * 128) + i.count))⟩] _ (by repeat (first | with_reducible exact hl2 | apply Cho.drewN | apply Cho.drew | apply Cho.alloc)) (by repeat (first | (with_reducible assumption) | (refine Blk.newAt ?_; simp; done) | (refine Blk.newAt ?_; rfl) | apply Blk.alloc | apply Blk.drew | apply Blk.drewN)) (by simp) (by simp; omega)).mono ?_
  rintro e w2 ⟨rfl, ov3, hl3, hs3⟩
  go_wp2_with fail
  go_end0
  exact ⟨rfl, ov3, by simpa using hl3, CS.trans (CS.trans hs1 (by repeat (first | with_reducible exact hs2 | exact CS.refl _ _ _ | apply CS.drewN | apply CS.drew | apply CS.alloc))) hs3⟩

set_option maxRecDepth 100000 in
set_option maxHeartbeats 6400000 in
theorem one_any : ChoSaid 33 (fun i hs bs => readL hs bs i.a 6 ++ makeL hs bs i.d ⟨5, 0, readR hs i.a 6, 0, wrap32 (wrap64 (wrap64 (i.op2 * 4) + i.ty))⟩) := by
  intro w g base i A hs hc bs ov out hl hn
  have hglt := hl.blk.lt
  have l1 := hl.blk.cell 1
  have l2 := hl.blk.cell 2
  have l4 := hl.blk.cell 4
  have l5 := hl.blk.cell 5
  simp at l1 l2 l4 l5
  have hrl := readL_len hs bs i.a 6
  go_enter Tryd.func33, Tryd.ntmps33
  go_wp2_with fail
  go_region_held3 (fun w' => w'.cell? ⟨g, 1, none⟩ = some (.int .i64 i.op2) ∧ w'.cell? ⟨g, 2, none⟩ = some (.int .i64 i.ty) ∧ w'.cell? ⟨g, 4, none⟩ = some (.int .i64 i.a) ∧ w'.cell? ⟨g, 5, none⟩ = some (.int .i64 i.b))
    (first
      | (go_keep; done)
      | (refine ⟨?_, ?_, ?_, ?_⟩ <;> exact cell_of_blk hl.blk (by rfl))
      | (refine ⟨?_, ?_, ?_, ?_⟩ <;> exact cell_of_blk hl1.blk (by rfl))
      | (refine ⟨?_, ?_, ?_, ?_⟩ <;> exact cell_of_blk hl2.blk (by rfl))
      | (refine ⟨?_, ?_, ?_, ?_⟩ <;> exact cell_of_blk hl3.blk (by rfl)))
    (first
      | (go_at_call 58; refine (read_any _ g base i A hs hc bs ov out i.a 6 (by repeat (first | with_reducible exact hl | apply Cho.drewN | apply Cho.drew | apply Cho.alloc)) (by omega)).mono ?_; rintro e w1 ⟨rfl, ov1, hl1, hs1⟩)
      | (go_at_call 15; refine (pack_any _ i.op2 4 i.ty).mono ?_; rintro e wp ⟨rfl, rfl⟩)
      | (go_at_call 56; refine (make_any _ g base i A hs hc bs ov1 _ ⟨5, 0, readR hs i.a 6, 0, wrap32 (wrap64 (wrap64 (i.op2 * 4) + i.ty))⟩ hl1 (by simp; omega)).mono ?_; rintro e w2 ⟨rfl, ov2, hl2, hs2⟩))
  all_goals
    go_wp2_with fail
    go_end0
    exact ⟨rfl, ov2, by simpa using hl2, CS.trans (CS.trans (CS.refl w g ov).drew hs1) hs2⟩

set_option maxRecDepth 100000 in
set_option maxHeartbeats 6400000 in
theorem two_any : ChoSaid 32 (fun i hs bs => readL hs bs i.a 6 ++ (readL hs bs i.b 7 ++ makeL hs bs i.d ⟨4, 0, readR hs i.a 6, readR hs i.b 7, wrap32 (wrap64 (wrap64 (i.op2 * 4) + i.ty))⟩)) := by
  intro w g base i A hs hc bs ov out hl hn
  have hglt := hl.blk.lt
  have l4 := hl.blk.cell 4
  simp at l4
  have hrl := readL_len hs bs i.a 6
  have hrl2 := readL_len hs bs i.b 7
  go_enter Tryd.func32, Tryd.ntmps32
  go_wp2_with fail
  refine (read_any _ g base i A hs hc bs ov out i.a 6 hl (by omega)).mono ?_
  rintro e w1 ⟨rfl, ov1, hl1, hs1⟩
  have hglt1 := hl1.blk.lt
  have m1 := hl1.blk.cell 1
  have m2 := hl1.blk.cell 2
  have m4 := hl1.blk.cell 4
  have m5 := hl1.blk.cell 5
  simp at m1 m2 m4 m5
  go_wp2_with fail
  go_region_held3 (fun w' => w'.cell? ⟨g, 1, none⟩ = some (.int .i64 i.op2) ∧ w'.cell? ⟨g, 2, none⟩ = some (.int .i64 i.ty) ∧ w'.cell? ⟨g, 4, none⟩ = some (.int .i64 i.a) ∧ w'.cell? ⟨g, 5, none⟩ = some (.int .i64 i.b))
    (first
      | (go_keep; done)
      | (refine ⟨?_, ?_, ?_, ?_⟩ <;> exact cell_of_blk hl.blk (by rfl))
      | (refine ⟨?_, ?_, ?_, ?_⟩ <;> exact cell_of_blk hl1.blk (by rfl))
      | (refine ⟨?_, ?_, ?_, ?_⟩ <;> exact cell_of_blk hl2.blk (by rfl))
      | (refine ⟨?_, ?_, ?_, ?_⟩ <;> exact cell_of_blk hl3.blk (by rfl)))
    (first
      | (go_at_call 58; refine (read_any _ g base i A hs hc bs ov1 _ i.b 7 hl1.drew (by simp; omega)).mono ?_; rintro e w2 ⟨rfl, ov2, hl2, hs2⟩)
      | (go_at_call 15; refine (pack_any _ i.op2 4 i.ty).mono ?_; rintro e wp ⟨rfl, rfl⟩)
      | (go_at_call 56; refine (make_any _ g base i A hs hc bs ov2 _ ⟨4, 0, readR hs i.a 6, readR hs i.b 7, wrap32 (wrap64 (wrap64 (i.op2 * 4) + i.ty))⟩ hl2 (by simp; omega)).mono ?_; rintro e w3 ⟨rfl, ov3, hl3, hs3⟩))
  all_goals
    go_wp2_with fail
    go_end0
    exact ⟨rfl, ov3, by simpa using hl3, CS.trans (CS.trans hs1.drew hs2) hs3⟩

end Go.Proofs.YthkiajbgdamjgaaDoor

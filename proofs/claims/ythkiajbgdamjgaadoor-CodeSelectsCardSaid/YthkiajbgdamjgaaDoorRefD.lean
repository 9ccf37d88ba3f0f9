/- The reference's chooser: move. Conditions: fewer than a million instructions. -/
import Derived.Test.YthkiajbgdamjgaaDoorRefC
import Derived.Test.YthkiajbgdamjgaaDoorCodD
import Derived.Deep.DeepCutAuto
namespace Go.Proofs.YthkiajbgdamjgaaDoor
set_option linter.unusedVariables false
open Go.RowKit
attribute [local irreducible] Blk

set_option maxRecDepth 100000 in
set_option maxHeartbeats 6400000 in
theorem rmove_slot (w : World) (g base : Nat) (A : Option Addr) (hs : List HV) (hc : Nat) (bs : Int) (ov : Value) (out : List C5) (i : I9) (dn an : Int) (asl : Bool) (hl : RCho w g base A hs hc bs ov out) (hn : out.length < 1000000) (hd : homeOf hs i.d = ⟨true, dn⟩) (ha : homeOf hs i.a = ⟨asl, an⟩) :
    Calls Tryd.prog 44 #[.pointer (some ⟨g, 0, none⟩), .agg #[.int .i64 i.op, .int .i64 i.op2, .int .i64 i.ty, .int .i64 i.d, .int .i64 i.a, .int .i64 i.b, .int .i64 i.n, .int .i64 i.count, .int .i64 i.step]] w fun e w' => e = .returned (.tuple #[]) ∧ ∃ ov', RCho w' g base A hs hc bs ov' (out ++ (readL hs bs i.a 6 ++ [⟨13, readR hs i.a 6, 0, 0, wrap32 (wrap64 (bs + dn))⟩])) ∧ CS w w' g ov ov' := by
  have hhd := fun W => rhome_any W g base A hs hc bs ov out i.d
  have hha := fun W => rhome_any W g base A hs hc bs ov out i.a
  rw [hd] at hhd
  rw [ha] at hha
  have HHD := Lib.hid hhd
  have HHA := Lib.hid hha
  clear hhd hha
  have hrl := readL_len hs bs i.a 6
  clear hd ha
  have hglt := hl.blk.lt
  go_enter Tryd.func44, Tryd.ntmps44
  go_wp2_with fail
  go_upto_region 1 with fail
  go_cut [4, 5] (fun s2 s3 wx => ∃ kd ka : Nat, s2 = .pointer (some ⟨kd, 0, none⟩) ∧ s3 = .pointer (some ⟨ka, 0, none⟩) ∧ Blk wx kd 36 #[.bool true, .int .i64 dn] ∧ Blk wx ka 36 #[.bool asl, .int .i64 an] ∧ Blk wx w.heap.size 23 #[.int .i64 i.op, .int .i64 i.op2, .int .i64 i.ty, .int .i64 i.d, .int .i64 i.a, .int .i64 i.b, .int .i64 i.n, .int .i64 i.count, .int .i64 i.step] ∧ RCho wx g base A hs hc bs ov out ∧ CS w wx g ov ov)
  case first =>
    go_region_held3 (fun w' => w'.cell? ⟨w.heap.size, 3, none⟩ = some (.int .i64 i.d) ∧ w'.cell? ⟨w.heap.size, 4, none⟩ = some (.int .i64 i.a))
      (first
        | (go_keep; done)
        | (refine ⟨?_, ?_⟩ <;> exact cell_of_blk (g := w.heap.size) (t := 23) (cs := #[.int .i64 i.op, .int .i64 i.op2, .int .i64 i.ty, .int .i64 i.d, .int .i64 i.a, .int .i64 i.b, .int .i64 i.n, .int .i64 i.count, .int .i64 i.step]) (by repeat (first | (with_reducible assumption) | (refine Blk.newAt ?_; simp; done) | (refine Blk.newAt ?_; simp; omega) | (refine Blk.newAt ?_; rfl) | apply Blk.alloc | apply Blk.drew | apply Blk.drewN)) (by rfl)))
      (first
        | (go_at_call_of 62 (Value.int .i64 i.d); refine (HHD.out _ (by repeat (first | with_reducible exact hl | apply RCho.drewN | apply RCho.drew | apply RCho.alloc))).mono ?_; rintro e w1 ⟨rfl, rfl⟩)
        | (go_at_call_of 62 (Value.int .i64 i.a); refine (HHA.out _ (by repeat (first | with_reducible exact hl | apply RCho.drewN | apply RCho.drew | apply RCho.alloc))).mono ?_; rintro e w1 ⟨rfl, rfl⟩))
    all_goals
      go_wp2_with fail
      go_meet
      exact ⟨_, _, rfl, rfl, (by repeat (first | (with_reducible assumption) | (refine Blk.newAt ?_; simp; done) | (refine Blk.newAt ?_; simp; omega) | (refine Blk.newAt ?_; rfl) | apply Blk.alloc | apply Blk.drew | apply Blk.drewN)), (by repeat (first | (with_reducible assumption) | (refine Blk.newAt ?_; simp; done) | (refine Blk.newAt ?_; simp; omega) | (refine Blk.newAt ?_; rfl) | apply Blk.alloc | apply Blk.drew | apply Blk.drewN)), (by repeat (first | (with_reducible assumption) | (refine Blk.newAt ?_; simp; done) | (refine Blk.newAt ?_; simp; omega) | (refine Blk.newAt ?_; rfl) | apply Blk.alloc | apply Blk.drew | apply Blk.drewN)), (by repeat (first | with_reducible exact hl | apply RCho.drewN | apply RCho.drew | apply RCho.alloc)), (by repeat (first  | exact CS.refl _ _ _ | apply CS.drewN | apply CS.drew | apply CS.alloc))⟩
  case rest =>
    obtain ⟨kd, ka, rfl, rfl, bd, ba, bi, hl1, hs1⟩ := hcut
    have hglt1 := hl1.blk.lt
    have m1 := hl1.blk.cell 1
    have i4 := bi.cell 4
    have d0 := bd.cell 0
    have d1 := bd.cell 1
    have a0 := ba.cell 0
    have a1 := ba.cell 1
    simp at m1 i4 d0 d1 a0 a1
    have bdl := bd.lt
    have bal := ba.lt
    have bil := bi.lt
    go_wp2_with fail
    refine (rread_any _ g base A hs hc bs ov out i.a 6 (by repeat (first | with_reducible exact hl1 | apply RCho.drewN | apply RCho.drew | apply RCho.alloc)) (by omega)).mono ?_
    rintro e w2 ⟨rfl, ov2, hl2, hs2⟩
    have bd2 := hs2.rblk (by repeat (first | with_reducible exact hl1 | apply RCho.drewN | apply RCho.drew | apply RCho.alloc)) (k := kd) (t := 36) (cs := #[.bool true, .int .i64 dn]) (by repeat (first | (with_reducible assumption) | (refine Blk.newAt ?_; simp; done) | (refine Blk.newAt ?_; rfl) | apply Blk.alloc | apply Blk.drew | apply Blk.drewN)) (by decide) (.inl (by decide))
    have hglt2 := hl2.blk.lt
    have bdl2 := bd2.lt
    go_wp2_with fail
    go_region_held3 (fun w' => w'.cell? ⟨g, 1, none⟩ = some (.int .i64 bs) ∧ w'.cell? ⟨kd, 1, none⟩ = some (.int .i64 dn))
      (first
        | (refine ⟨cell_of_blk hl2.blk (by rfl), cell_of_blk bd2 (by rfl)⟩)
        | (refine ⟨cell_of_blk (RCho.blk (by repeat (first | with_reducible exact hl2 | apply RCho.drewN | apply RCho.drew | apply RCho.alloc))) (by rfl), cell_of_blk (by repeat (first | (with_reducible assumption) | (refine Blk.newAt ?_; simp; done) | (refine Blk.newAt ?_; rfl) | apply Blk.alloc | apply Blk.drew | apply Blk.drewN)) (by rfl)⟩)
        | (refine ⟨cell_of_blk hl3.blk (by rfl), cell_of_blk bd3 (by rfl)⟩))
      (first
        | (go_at_call 41; refine (radd_any _ g base A hs hc bs ov2 _ 13 (readR hs i.a 6) 0 0 _ (by repeat (first | with_reducible exact hl2 | apply RCho.drewN | apply RCho.drew | apply RCho.alloc)) (by first | omega | (simp; omega))).mono ?_; rintro e w3 ⟨rfl, ov3, hl3, hs3⟩; have bd3 := hs3.rblk (by repeat (first | with_reducible exact hl2 | apply RCho.drewN | apply RCho.drew | apply RCho.alloc)) (k := kd) (t := 36) (cs := #[.bool true, .int .i64 dn]) (by repeat (first | (with_reducible assumption) | (refine Blk.newAt ?_; simp; done) | (refine Blk.newAt ?_; rfl) | apply Blk.alloc | apply Blk.drew | apply Blk.drewN)) (by decide) (.inl (by decide))))
    all_goals
      go_wp2_with fail
      go_end0
      rw [show IntKind.u8.wrap 13 = 13 from by decide, IntWalk.i64_left] at hl3
      exact ⟨rfl, ov3, by simpa using hl3, CS.trans (CS.trans hs1 (CS.trans (by repeat (first  | exact CS.refl _ _ _ | apply CS.drewN | apply CS.drew | apply CS.alloc)) hs2)) (CS.trans (by repeat (first  | exact CS.refl _ _ _ | apply CS.drewN | apply CS.drew | apply CS.alloc)) hs3)⟩

set_option maxRecDepth 100000 in
set_option maxHeartbeats 6400000 in
theorem rmove_load (w : World) (g base : Nat) (A : Option Addr) (hs : List HV) (hc : Nat) (bs : Int) (ov : Value) (out : List C5) (i : I9) (dn an : Int) (hl : RCho w g base A hs hc bs ov out) (hn : out.length < 1000000) (hd : homeOf hs i.d = ⟨false, dn⟩) (ha : homeOf hs i.a = ⟨true, an⟩) :
    Calls Tryd.prog 44 #[.pointer (some ⟨g, 0, none⟩), .agg #[.int .i64 i.op, .int .i64 i.op2, .int .i64 i.ty, .int .i64 i.d, .int .i64 i.a, .int .i64 i.b, .int .i64 i.n, .int .i64 i.count, .int .i64 i.step]] w fun e w' => e = .returned (.tuple #[]) ∧ ∃ ov', RCho w' g base A hs hc bs ov' (out ++ [⟨12, IntKind.u8.wrap dn, 0, 0, wrap32 (wrap64 (bs + an))⟩]) ∧ CS w w' g ov ov' := by
  have hhd := fun W => rhome_any W g base A hs hc bs ov out i.d
  have hha := fun W => rhome_any W g base A hs hc bs ov out i.a
  rw [hd] at hhd
  rw [ha] at hha
  have HHD := Lib.hid hhd
  have HHA := Lib.hid hha
  clear hhd hha
  have hrl := readL_len hs bs i.a 6
  clear hd ha
  have hglt := hl.blk.lt
  go_enter Tryd.func44, Tryd.ntmps44
  go_wp2_with fail
  go_upto_region 1 with fail
  go_cut [4, 5] (fun s2 s3 wx => ∃ kd ka : Nat, s2 = .pointer (some ⟨kd, 0, none⟩) ∧ s3 = .pointer (some ⟨ka, 0, none⟩) ∧ Blk wx kd 36 #[.bool false, .int .i64 dn] ∧ Blk wx ka 36 #[.bool true, .int .i64 an] ∧ Blk wx w.heap.size 23 #[.int .i64 i.op, .int .i64 i.op2, .int .i64 i.ty, .int .i64 i.d, .int .i64 i.a, .int .i64 i.b, .int .i64 i.n, .int .i64 i.count, .int .i64 i.step] ∧ RCho wx g base A hs hc bs ov out ∧ CS w wx g ov ov)
  case first =>
    go_region_held3 (fun w' => w'.cell? ⟨w.heap.size, 3, none⟩ = some (.int .i64 i.d) ∧ w'.cell? ⟨w.heap.size, 4, none⟩ = some (.int .i64 i.a))
      (first
        | (go_keep; done)
        | (refine ⟨?_, ?_⟩ <;> exact cell_of_blk (g := w.heap.size) (t := 23) (cs := #[.int .i64 i.op, .int .i64 i.op2, .int .i64 i.ty, .int .i64 i.d, .int .i64 i.a, .int .i64 i.b, .int .i64 i.n, .int .i64 i.count, .int .i64 i.step]) (by repeat (first | (with_reducible assumption) | (refine Blk.newAt ?_; simp; done) | (refine Blk.newAt ?_; simp; omega) | (refine Blk.newAt ?_; rfl) | apply Blk.alloc | apply Blk.drew | apply Blk.drewN)) (by rfl)))
      (first
        | (go_at_call_of 62 (Value.int .i64 i.d); refine (HHD.out _ (by repeat (first | with_reducible exact hl | apply RCho.drewN | apply RCho.drew | apply RCho.alloc))).mono ?_; rintro e w1 ⟨rfl, rfl⟩)
        | (go_at_call_of 62 (Value.int .i64 i.a); refine (HHA.out _ (by repeat (first | with_reducible exact hl | apply RCho.drewN | apply RCho.drew | apply RCho.alloc))).mono ?_; rintro e w1 ⟨rfl, rfl⟩))
    all_goals
      go_wp2_with fail
      go_meet
      exact ⟨_, _, rfl, rfl, (by repeat (first | (with_reducible assumption) | (refine Blk.newAt ?_; simp; done) | (refine Blk.newAt ?_; simp; omega) | (refine Blk.newAt ?_; rfl) | apply Blk.alloc | apply Blk.drew | apply Blk.drewN)), (by repeat (first | (with_reducible assumption) | (refine Blk.newAt ?_; simp; done) | (refine Blk.newAt ?_; simp; omega) | (refine Blk.newAt ?_; rfl) | apply Blk.alloc | apply Blk.drew | apply Blk.drewN)), (by repeat (first | (with_reducible assumption) | (refine Blk.newAt ?_; simp; done) | (refine Blk.newAt ?_; simp; omega) | (refine Blk.newAt ?_; rfl) | apply Blk.alloc | apply Blk.drew | apply Blk.drewN)), (by repeat (first | with_reducible exact hl | apply RCho.drewN | apply RCho.drew | apply RCho.alloc)), (by repeat (first  | exact CS.refl _ _ _ | apply CS.drewN | apply CS.drew | apply CS.alloc))⟩
  case rest =>
    obtain ⟨kd, ka, rfl, rfl, bd, ba, bi, hl1, hs1⟩ := hcut
    have hglt1 := hl1.blk.lt
    have m1 := hl1.blk.cell 1
    have i4 := bi.cell 4
    have d0 := bd.cell 0
    have d1 := bd.cell 1
    have a0 := ba.cell 0
    have a1 := ba.cell 1
    simp at m1 i4 d0 d1 a0 a1
    have bdl := bd.lt
    have bal := ba.lt
    have bil := bi.lt
    go_wp2_with fail
    go_region_held3 (fun w' => w'.cell? ⟨g, 1, none⟩ = some (.int .i64 bs) ∧ w'.cell? ⟨kd, 1, none⟩ = some (.int .i64 dn) ∧ w'.cell? ⟨ka, 1, none⟩ = some (.int .i64 an))
      (first
        | (refine ⟨cell_of_blk (RCho.blk (by repeat (first | with_reducible exact hl1 | apply RCho.drewN | apply RCho.drew | apply RCho.alloc))) (by rfl), cell_of_blk (by repeat (first | (with_reducible assumption) | (refine Blk.newAt ?_; simp; done) | (refine Blk.newAt ?_; rfl) | apply Blk.alloc | apply Blk.drew | apply Blk.drewN)) (by rfl), cell_of_blk (by repeat (first | (with_reducible assumption) | (refine Blk.newAt ?_; simp; done) | (refine Blk.newAt ?_; rfl) | apply Blk.alloc | apply Blk.drew | apply Blk.drewN)) (by rfl)⟩)
        | (refine ⟨cell_of_blk hl3.blk (by rfl), cell_of_blk bd3 (by rfl), cell_of_blk ba3 (by rfl)⟩))
      (first
        | (go_at_call 41; refine (radd_any _ g base A hs hc bs ov _ 12 (IntKind.u8.wrap dn) 0 0 _ (by repeat (first | with_reducible exact hl1 | apply RCho.drewN | apply RCho.drew | apply RCho.alloc)) (by first | omega | (simp; omega))).mono ?_; rintro e w3 ⟨rfl, ov3, hl3, hs3⟩; have bd3 := hs3.rblk (by repeat (first | with_reducible exact hl1 | apply RCho.drewN | apply RCho.drew | apply RCho.alloc)) (k := kd) (t := 36) (cs := #[.bool false, .int .i64 dn]) (by repeat (first | (with_reducible assumption) | (refine Blk.newAt ?_; simp; done) | (refine Blk.newAt ?_; rfl) | apply Blk.alloc | apply Blk.drew | apply Blk.drewN)) (by decide) (.inl (by decide)); have ba3 := hs3.rblk (by repeat (first | with_reducible exact hl1 | apply RCho.drewN | apply RCho.drew | apply RCho.alloc)) (k := ka) (t := 36) (cs := #[.bool true, .int .i64 an]) (by repeat (first | (with_reducible assumption) | (refine Blk.newAt ?_; simp; done) | (refine Blk.newAt ?_; rfl) | apply Blk.alloc | apply Blk.drew | apply Blk.drewN)) (by decide) (.inl (by decide))))
    all_goals
      go_wp2_with fail
      go_end0
      rw [show IntKind.u8.wrap 12 = 12 from by decide, IntWalk.i64_left] at hl3
      exact ⟨rfl, ov3, by simpa using hl3, CS.trans hs1 (CS.trans (by repeat (first  | exact CS.refl _ _ _ | apply CS.drewN | apply CS.drew | apply CS.alloc)) hs3)⟩

set_option maxRecDepth 100000 in
set_option maxHeartbeats 6400000 in
theorem rmove_none (w : World) (g base : Nat) (A : Option Addr) (hs : List HV) (hc : Nat) (bs : Int) (ov : Value) (out : List C5) (i : I9) (dn an : Int) (hl : RCho w g base A hs hc bs ov out) (hn : out.length < 1000000) (hd : homeOf hs i.d = ⟨false, dn⟩) (ha : homeOf hs i.a = ⟨false, an⟩) (hda : dn = an) :
    Calls Tryd.prog 44 #[.pointer (some ⟨g, 0, none⟩), .agg #[.int .i64 i.op, .int .i64 i.op2, .int .i64 i.ty, .int .i64 i.d, .int .i64 i.a, .int .i64 i.b, .int .i64 i.n, .int .i64 i.count, .int .i64 i.step]] w fun e w' => e = .returned (.tuple #[]) ∧ ∃ ov', RCho w' g base A hs hc bs ov' (out ++ []) ∧ CS w w' g ov ov' := by
  subst hda
  have hhd := fun W => rhome_any W g base A hs hc bs ov out i.d
  have hha := fun W => rhome_any W g base A hs hc bs ov out i.a
  rw [hd] at hhd
  rw [ha] at hha
  have HHD := Lib.hid hhd
  have HHA := Lib.hid hha
  clear hhd hha
  have hrl := readL_len hs bs i.a 6
  clear hd ha
  have hglt := hl.blk.lt
  go_enter Tryd.func44, Tryd.ntmps44
  go_wp2_with fail
  go_upto_region 1 with fail
  go_cut [4, 5] (fun s2 s3 wx => ∃ kd ka : Nat, s2 = .pointer (some ⟨kd, 0, none⟩) ∧ s3 = .pointer (some ⟨ka, 0, none⟩) ∧ Blk wx kd 36 #[.bool false, .int .i64 dn] ∧ Blk wx ka 36 #[.bool false, .int .i64 dn] ∧ Blk wx w.heap.size 23 #[.int .i64 i.op, .int .i64 i.op2, .int .i64 i.ty, .int .i64 i.d, .int .i64 i.a, .int .i64 i.b, .int .i64 i.n, .int .i64 i.count, .int .i64 i.step] ∧ RCho wx g base A hs hc bs ov out ∧ CS w wx g ov ov)
  case first =>
    go_region_held3 (fun w' => w'.cell? ⟨w.heap.size, 3, none⟩ = some (.int .i64 i.d) ∧ w'.cell? ⟨w.heap.size, 4, none⟩ = some (.int .i64 i.a))
      (first
        | (go_keep; done)
        | (refine ⟨?_, ?_⟩ <;> exact cell_of_blk (g := w.heap.size) (t := 23) (cs := #[.int .i64 i.op, .int .i64 i.op2, .int .i64 i.ty, .int .i64 i.d, .int .i64 i.a, .int .i64 i.b, .int .i64 i.n, .int .i64 i.count, .int .i64 i.step]) (by repeat (first | (with_reducible assumption) | (refine Blk.newAt ?_; simp; done) | (refine Blk.newAt ?_; simp; omega) | (refine Blk.newAt ?_; rfl) | apply Blk.alloc | apply Blk.drew | apply Blk.drewN)) (by rfl)))
      (first
        | (go_at_call_of 62 (Value.int .i64 i.d); refine (HHD.out _ (by repeat (first | with_reducible exact hl | apply RCho.drewN | apply RCho.drew | apply RCho.alloc))).mono ?_; rintro e w1 ⟨rfl, rfl⟩)
        | (go_at_call_of 62 (Value.int .i64 i.a); refine (HHA.out _ (by repeat (first | with_reducible exact hl | apply RCho.drewN | apply RCho.drew | apply RCho.alloc))).mono ?_; rintro e w1 ⟨rfl, rfl⟩))
    all_goals
      go_wp2_with fail
      go_meet
      exact ⟨_, _, rfl, rfl, (by repeat (first | (with_reducible assumption) | (refine Blk.newAt ?_; simp; done) | (refine Blk.newAt ?_; simp; omega) | (refine Blk.newAt ?_; rfl) | apply Blk.alloc | apply Blk.drew | apply Blk.drewN)), (by repeat (first | (with_reducible assumption) | (refine Blk.newAt ?_; simp; done) | (refine Blk.newAt ?_; simp; omega) | (refine Blk.newAt ?_; rfl) | apply Blk.alloc | apply Blk.drew | apply Blk.drewN)), (by repeat (first | (with_reducible assumption) | (refine Blk.newAt ?_; simp; done) | (refine Blk.newAt ?_; simp; omega) | (refine Blk.newAt ?_; rfl) | apply Blk.alloc | apply Blk.drew | apply Blk.drewN)), (by repeat (first | with_reducible exact hl | apply RCho.drewN | apply RCho.drew | apply RCho.alloc)), (by repeat (first  | exact CS.refl _ _ _ | apply CS.drewN | apply CS.drew | apply CS.alloc))⟩
  case rest =>
    obtain ⟨kd, ka, rfl, rfl, bd, ba, bi, hl1, hs1⟩ := hcut
    have hglt1 := hl1.blk.lt
    have m1 := hl1.blk.cell 1
    have i4 := bi.cell 4
    have d0 := bd.cell 0
    have d1 := bd.cell 1
    have a0 := ba.cell 0
    have a1 := ba.cell 1
    simp at m1 i4 d0 d1 a0 a1
    have bdl := bd.lt
    have bal := ba.lt
    have bil := bi.lt
    have t1 : (dn == dn) = true := by simp
    have t2 : (dn != dn) = false := by simp
    go_wp2_with fail
    go_end0
    exact ⟨rfl, ov, by simpa using hl1, hs1⟩

set_option maxRecDepth 100000 in
set_option maxHeartbeats 6400000 in
theorem rmove_reg (w : World) (g base : Nat) (A : Option Addr) (hs : List HV) (hc : Nat) (bs : Int) (ov : Value) (out : List C5) (i : I9) (dn an : Int) (hl : RCho w g base A hs hc bs ov out) (hn : out.length < 1000000) (hd : homeOf hs i.d = ⟨false, dn⟩) (ha : homeOf hs i.a = ⟨false, an⟩) (hda : dn ≠ an) :
    Calls Tryd.prog 44 #[.pointer (some ⟨g, 0, none⟩), .agg #[.int .i64 i.op, .int .i64 i.op2, .int .i64 i.ty, .int .i64 i.d, .int .i64 i.a, .int .i64 i.b, .int .i64 i.n, .int .i64 i.count, .int .i64 i.step]] w fun e w' => e = .returned (.tuple #[]) ∧ ∃ ov', RCho w' g base A hs hc bs ov' (out ++ [⟨3, IntKind.u8.wrap dn, IntKind.u8.wrap an, 0, 0⟩]) ∧ CS w w' g ov ov' := by
  have hhd := fun W => rhome_any W g base A hs hc bs ov out i.d
  have hha := fun W => rhome_any W g base A hs hc bs ov out i.a
  rw [hd] at hhd
  rw [ha] at hha
  have HHD := Lib.hid hhd
  have HHA := Lib.hid hha
  clear hhd hha
  have hrl := readL_len hs bs i.a 6
  clear hd ha
  have hglt := hl.blk.lt
  go_enter Tryd.func44, Tryd.ntmps44
  go_wp2_with fail
  go_upto_region 1 with fail
  go_cut [4, 5] (fun s2 s3 wx => ∃ kd ka : Nat, s2 = .pointer (some ⟨kd, 0, none⟩) ∧ s3 = .pointer (some ⟨ka, 0, none⟩) ∧ Blk wx kd 36 #[.bool false, .int .i64 dn] ∧ Blk wx ka 36 #[.bool false, .int .i64 an] ∧ Blk wx w.heap.size 23 #[.int .i64 i.op, .int .i64 i.op2, .int .i64 i.ty, .int .i64 i.d, .int .i64 i.a, .int .i64 i.b, .int .i64 i.n, .int .i64 i.count, .int .i64 i.step] ∧ RCho wx g base A hs hc bs ov out ∧ CS w wx g ov ov)
  case first =>
    go_region_held3 (fun w' => w'.cell? ⟨w.heap.size, 3, none⟩ = some (.int .i64 i.d) ∧ w'.cell? ⟨w.heap.size, 4, none⟩ = some (.int .i64 i.a))
      (first
        | (go_keep; done)
        | (refine ⟨?_, ?_⟩ <;> exact cell_of_blk (g := w.heap.size) (t := 23) (cs := #[.int .i64 i.op, .int .i64 i.op2, .int .i64 i.ty, .int .i64 i.d, .int .i64 i.a, .int .i64 i.b, .int .i64 i.n, .int .i64 i.count, .int .i64 i.step]) (by repeat (first | (with_reducible assumption) | (refine Blk.newAt ?_; simp; done) | (refine Blk.newAt ?_; simp; omega) | (refine Blk.newAt ?_; rfl) | apply Blk.alloc | apply Blk.drew | apply Blk.drewN)) (by rfl)))
      (first
        | (go_at_call_of 62 (Value.int .i64 i.d); refine (HHD.out _ (by repeat (first | with_reducible exact hl | apply RCho.drewN | apply RCho.drew | apply RCho.alloc))).mono ?_; rintro e w1 ⟨rfl, rfl⟩)
        | (go_at_call_of 62 (Value.int .i64 i.a); refine (HHA.out _ (by repeat (first | with_reducible exact hl | apply RCho.drewN | apply RCho.drew | apply RCho.alloc))).mono ?_; rintro e w1 ⟨rfl, rfl⟩))
    all_goals
      go_wp2_with fail
      go_meet
      exact ⟨_, _, rfl, rfl, (by repeat (first | (with_reducible assumption) | (refine Blk.newAt ?_; simp; done) | (refine Blk.newAt ?_; simp; omega) | (refine Blk.newAt ?_; rfl) | apply Blk.alloc | apply Blk.drew | apply Blk.drewN)), (by repeat (first | (with_reducible assumption) | (refine Blk.newAt ?_; simp; done) | (refine Blk.newAt ?_; simp; omega) | (refine Blk.newAt ?_; rfl) | apply Blk.alloc | apply Blk.drew | apply Blk.drewN)), (by repeat (first | (with_reducible assumption) | (refine Blk.newAt ?_; simp; done) | (refine Blk.newAt ?_; simp; omega) | (refine Blk.newAt ?_; rfl) | apply Blk.alloc | apply Blk.drew | apply Blk.drewN)), (by repeat (first | with_reducible exact hl | apply RCho.drewN | apply RCho.drew | apply RCho.alloc)), (by repeat (first  | exact CS.refl _ _ _ | apply CS.drewN | apply CS.drew | apply CS.alloc))⟩
  case rest =>
    obtain ⟨kd, ka, rfl, rfl, bd, ba, bi, hl1, hs1⟩ := hcut
    have hglt1 := hl1.blk.lt
    have m1 := hl1.blk.cell 1
    have i4 := bi.cell 4
    have d0 := bd.cell 0
    have d1 := bd.cell 1
    have a0 := ba.cell 0
    have a1 := ba.cell 1
    simp at m1 i4 d0 d1 a0 a1
    have bdl := bd.lt
    have bal := ba.lt
    have bil := bi.lt
    have t1 : (dn == an) = false := by simpa using hda
    have t2 : (dn != an) = true := by simpa using hda
    clear hda
    go_wp2_with fail
    refine (radd_any _ g base A hs hc bs ov out 3 (IntKind.u8.wrap dn) (IntKind.u8.wrap an) 0 0 (by repeat (first | with_reducible exact hl1 | apply RCho.drewN | apply RCho.drew | apply RCho.alloc)) (by omega)).mono ?_
    rintro e w2 ⟨rfl, ov2, hl2, hs2⟩
    go_wp2_with fail
    go_end0
    rw [show IntKind.u8.wrap 3 = 3 from by decide, show wrap32 0 = 0 from by unfold wrap32; omega] at hl2
    exact ⟨rfl, ov2, hl2, CS.trans (by repeat (first | with_reducible exact hs1 | exact CS.refl _ _ _ | apply CS.drewN | apply CS.drew | apply CS.alloc)) hs2⟩

theorem rmove_any (w : World) (g base : Nat) (A : Option Addr) (hs : List HV) (hc : Nat) (bs : Int) (ov : Value) (out : List C5) (i : I9) (hl : RCho w g base A hs hc bs ov out) (hn : out.length < 1000000) :
    Calls Tryd.prog 44 #[.pointer (some ⟨g, 0, none⟩), .agg #[.int .i64 i.op, .int .i64 i.op2, .int .i64 i.ty, .int .i64 i.d, .int .i64 i.a, .int .i64 i.b, .int .i64 i.n, .int .i64 i.count, .int .i64 i.step]] w fun e w' => e = .returned (.tuple #[]) ∧ ∃ ov', RCho w' g base A hs hc bs ov' (out ++ moveL i hs bs) ∧ CS w w' g ov ov' := by
  rcases hd : homeOf hs i.d with ⟨dsl, dn⟩
  rcases ha : homeOf hs i.a with ⟨asl, an⟩
  cases dsl
  · cases asl
    · by_cases hda : dn = an
      · simpa [moveL, hd, ha, hda] using rmove_none w g base A hs hc bs ov out i dn an hl hn hd ha hda
      · simpa [moveL, hd, ha, hda] using rmove_reg w g base A hs hc bs ov out i dn an hl hn hd ha hda
    · simpa [moveL, readL, hd, ha] using rmove_load w g base A hs hc bs ov out i dn an hl hn hd ha
  · simpa [moveL, hd, ha] using rmove_slot w g base A hs hc bs ov out i dn an asl hl hn hd ha
end Go.Proofs.YthkiajbgdamjgaaDoor

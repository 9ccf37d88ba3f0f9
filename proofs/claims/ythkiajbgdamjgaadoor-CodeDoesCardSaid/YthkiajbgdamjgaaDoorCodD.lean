/- Package code: move. -/
import Derived.Test.YthkiajbgdamjgaaDoorCodC
import Derived.Deep.DeepCutAuto
namespace Go.Proofs.YthkiajbgdamjgaaDoor
set_option linter.unusedVariables false
open Go.RowKit
attribute [local irreducible] Blk

def moveL (i : I9) (hs : List HV) (bs : Int) : List C5 :=
  if (homeOf hs i.d).isSlot then readL hs bs i.a 6 ++ [⟨13, readR hs i.a 6, 0, 0, wrap32 (wrap64 (bs + (homeOf hs i.d).n))⟩]
  else if (homeOf hs i.a).isSlot then readL hs bs i.a (IntKind.u8.wrap (homeOf hs i.d).n)
  else if (homeOf hs i.d).n = (homeOf hs i.a).n then [] else [⟨3, IntKind.u8.wrap (homeOf hs i.d).n, IntKind.u8.wrap (homeOf hs i.a).n, 0, 0⟩]

set_option maxRecDepth 100000 in
set_option maxHeartbeats 6400000 in
theorem move_slot (w : World) (g base : Nat) (i : I9) (A : Option Addr) (hs : List HV) (hc : Nat) (bs : Int) (ov : Value) (out : List C5) (dn an : Int) (asl : Bool) (hl : Cho w g base i A hs hc bs ov out) (hn : out.length < 1000000) (hd : homeOf hs i.d = ⟨true, dn⟩) (ha : homeOf hs i.a = ⟨asl, an⟩) :
    Calls Tryd.prog 31 #[.pointer (some ⟨g, 0, none⟩)] w fun e w' => e = .returned (.tuple #[]) ∧ ∃ ov', Cho w' g base i A hs hc bs ov' (out ++ (readL hs bs i.a 6 ++ [⟨13, readR hs i.a 6, 0, 0, wrap32 (wrap64 (bs + dn))⟩])) ∧ CS w w' g ov ov' := by
  have hhd := fun W => home_any W g base i A hs hc bs ov out i.d
  have hha := fun W => home_any W g base i A hs hc bs ov out i.a
  rw [hd] at hhd
  rw [ha] at hha
  have HHD := Lib.hid hhd
  have HHA := Lib.hid hha
  clear hhd hha
  have hrl := readL_len hs bs i.a 6
  have HD' := Lib.hid hd
  have HA' := Lib.hid ha
  clear hd ha
  have hglt := hl.blk.lt
  have l3 := hl.blk.cell 3
  have l4 := hl.blk.cell 4
  simp at l3 l4
  go_enter Tryd.func31, Tryd.ntmps31
  go_upto_region 0 with fail
  go_cut [2, 3] (fun s2 s3 wx => ∃ kd ka : Nat, s2 = .pointer (some ⟨kd, 0, none⟩) ∧ s3 = .pointer (some ⟨ka, 0, none⟩) ∧ Blk wx kd 36 #[.bool true, .int .i64 dn] ∧ Blk wx ka 36 #[.bool asl, .int .i64 an] ∧ Cho wx g base i A hs hc bs ov out ∧ CS w wx g ov ov)
  case first =>
    go_region_held3 (fun w' => w'.cell? ⟨g, 3, none⟩ = some (.int .i64 i.d) ∧ w'.cell? ⟨g, 4, none⟩ = some (.int .i64 i.a))
      (first
        | (go_keep; done)
        | (refine ⟨?_, ?_⟩ <;> exact cell_of_blk (Cho.blk (i := i) (A := A) (hs := hs) (hc := hc) (bs := bs) (ov := ov) (out := out) (base := base) (by repeat (first | with_reducible exact hl | apply Cho.drewN | apply Cho.drew | apply Cho.alloc))) (by rfl)))
      (first
        | (go_at_call_of 57 (Value.int .i64 i.d); refine (HHD.out _ (by repeat (first | with_reducible exact hl | apply Cho.drewN | apply Cho.drew | apply Cho.alloc))).mono ?_; rintro e w1 ⟨rfl, rfl⟩)
        | (go_at_call_of 57 (Value.int .i64 i.a); refine (HHA.out _ (by repeat (first | with_reducible exact hl | apply Cho.drewN | apply Cho.drew | apply Cho.alloc))).mono ?_; rintro e w1 ⟨rfl, rfl⟩))
    all_goals
      go_wp2_with fail
      go_meet
      exact ⟨_, _, rfl, rfl, (by repeat (first | (with_reducible assumption) | (refine Blk.newAt ?_; simp; done) | (refine Blk.newAt ?_; simp; omega) | (refine Blk.newAt ?_; rfl) | apply Blk.alloc | apply Blk.drew | apply Blk.drewN)), (by repeat (first | (with_reducible assumption) | (refine Blk.newAt ?_; simp; done) | (refine Blk.newAt ?_; simp; omega) | (refine Blk.newAt ?_; rfl) | apply Blk.alloc | apply Blk.drew | apply Blk.drewN)), (by repeat (first | with_reducible exact hl | apply Cho.drewN | apply Cho.drew | apply Cho.alloc)), (by repeat (first  | exact CS.refl _ _ _ | apply CS.drewN | apply CS.drew | apply CS.alloc))⟩
  case rest =>
    obtain ⟨kd, ka, rfl, rfl, bd, ba, hl1, hs1⟩ := hcut
    have hglt1 := hl1.blk.lt
    have m4 := hl1.blk.cell 4
    have d0 := bd.cell 0
    have d1 := bd.cell 1
    have a0 := ba.cell 0
    have a1 := ba.cell 1
    simp at m4 d0 d1 a0 a1
    go_wp2_with fail
    go_region_held3 (fun w' => w'.cell? ⟨g, 4, none⟩ = some (.int .i64 i.a) ∧ w'.cell? ⟨kd, 0, none⟩ = some (.bool true) ∧ w'.cell? ⟨kd, 1, none⟩ = some (.int .i64 dn))
      (first
        | (go_keep; done)
        | (refine ⟨cell_of_blk hl1.blk (by rfl), cell_of_blk (by repeat (first | (with_reducible assumption) | (refine Blk.newAt ?_; simp; done) | (refine Blk.newAt ?_; rfl) | apply Blk.alloc | apply Blk.drew | apply Blk.drewN)) (by rfl), cell_of_blk (by repeat (first | (with_reducible assumption) | (refine Blk.newAt ?_; simp; done) | (refine Blk.newAt ?_; rfl) | apply Blk.alloc | apply Blk.drew | apply Blk.drewN)) (by rfl)⟩)
        | (refine ⟨cell_of_blk hl2.blk (by rfl), cell_of_blk (by repeat (first | (with_reducible assumption) | (refine Blk.newAt ?_; simp; done) | (refine Blk.newAt ?_; rfl) | apply Blk.alloc | apply Blk.drew | apply Blk.drewN)) (by rfl), cell_of_blk (by repeat (first | (with_reducible assumption) | (refine Blk.newAt ?_; simp; done) | (refine Blk.newAt ?_; rfl) | apply Blk.alloc | apply Blk.drew | apply Blk.drewN)) (by rfl)⟩)
        | (refine ⟨cell_of_blk (Cho.blk (by repeat (first | with_reducible exact hl2 | apply Cho.drewN | apply Cho.drew | apply Cho.alloc))) (by rfl), cell_of_blk (by repeat (first | (with_reducible assumption) | (refine Blk.newAt ?_; simp; done) | (refine Blk.newAt ?_; rfl) | apply Blk.alloc | apply Blk.drew | apply Blk.drewN)) (by rfl), cell_of_blk (by repeat (first | (with_reducible assumption) | (refine Blk.newAt ?_; simp; done) | (refine Blk.newAt ?_; rfl) | apply Blk.alloc | apply Blk.drew | apply Blk.drewN)) (by rfl)⟩)
        | (refine ⟨cell_of_blk hl3.blk (by rfl), cell_of_blk (by repeat (first | (with_reducible assumption) | (refine Blk.newAt ?_; simp; done) | (refine Blk.newAt ?_; rfl) | apply Blk.alloc | apply Blk.drew | apply Blk.drewN)) (by rfl), cell_of_blk (by repeat (first | (with_reducible assumption) | (refine Blk.newAt ?_; simp; done) | (refine Blk.newAt ?_; rfl) | apply Blk.alloc | apply Blk.drew | apply Blk.drewN)) (by rfl)⟩))
      (first
        | (go_at_call 58; refine (read_any _ g base i A hs hc bs ov out i.a 6 (by repeat (first | with_reducible exact hl1 | apply Cho.drewN | apply Cho.drew | apply Cho.alloc)) (by omega)).mono ?_; rintro e w2 ⟨rfl, ov2, hl2, hs2⟩; have bd2 := hs2.blk (by repeat (first | with_reducible exact hl1 | apply Cho.drewN | apply Cho.drew | apply Cho.alloc)) (g := g) (k := kd) (t := 36) (cs := #[.bool true, .int .i64 dn]) (by repeat (first | (with_reducible assumption) | (refine Blk.newAt ?_; simp; done) | (refine Blk.newAt ?_; rfl) | apply Blk.alloc | apply Blk.drew | apply Blk.drewN)) (by decide) (.inl (by decide)))
        | (go_at_call 59; refine (word_any _ g base i A hs hc bs ov2 _ ⟨true, dn⟩ hl2).mono ?_; rintro e w3 ⟨rfl, k, rfl⟩)
        | (go_at_call 54; refine (add_any _ g _ base i A hs hc bs ov2 _ [⟨13, readR hs i.a 6, 0, 0, wrap32 (wrap64 (bs + dn))⟩] _ (by repeat (first | with_reducible exact hl2 | apply Cho.drewN | apply Cho.drew | apply Cho.alloc)) (by repeat (first | (with_reducible assumption) | (refine Blk.newAt ?_; simp; done) | (refine Blk.newAt ?_; rfl) | apply Blk.alloc | apply Blk.drew | apply Blk.drewN)) (by simp) (by simp; omega)).mono ?_; rintro e w3 ⟨rfl, ov3, hl3, hs3⟩; have bd3 := hs3.blk (by repeat (first | with_reducible exact hl2 | apply Cho.drewN | apply Cho.drew | apply Cho.alloc)) (g := g) (k := kd) (t := 36) (cs := #[.bool true, .int .i64 dn]) (by repeat (first | (with_reducible assumption) | (refine Blk.newAt ?_; simp; done) | (refine Blk.newAt ?_; rfl) | apply Blk.alloc | apply Blk.drew | apply Blk.drewN)) (by decide) (.inl (by decide))))
    all_goals
      go_wp2_with fail
      go_end0
      exact ⟨rfl, ov3, by simpa using hl3, CS.trans (CS.trans hs1.drew hs2) (CS.trans (by repeat (first  | exact CS.refl _ _ _ | apply CS.drewN | apply CS.drew | apply CS.alloc)) hs3)⟩

set_option maxRecDepth 100000 in
set_option maxHeartbeats 6400000 in
theorem move_load (w : World) (g base : Nat) (i : I9) (A : Option Addr) (hs : List HV) (hc : Nat) (bs : Int) (ov : Value) (out : List C5) (dn an : Int) (hl : Cho w g base i A hs hc bs ov out) (hn : out.length < 1000000) (hd : homeOf hs i.d = ⟨false, dn⟩) (ha : homeOf hs i.a = ⟨true, an⟩) :
    Calls Tryd.prog 31 #[.pointer (some ⟨g, 0, none⟩)] w fun e w' => e = .returned (.tuple #[]) ∧ ∃ ov', Cho w' g base i A hs hc bs ov' (out ++ [⟨12, IntKind.u8.wrap dn, 0, 0, wrap32 (wrap64 (bs + an))⟩]) ∧ CS w w' g ov ov' := by
  have hhd := fun W => home_any W g base i A hs hc bs ov out i.d
  have hha := fun W => home_any W g base i A hs hc bs ov out i.a
  rw [hd] at hhd
  rw [ha] at hha
  have HHD := Lib.hid hhd
  have HHA := Lib.hid hha
  clear hhd hha
  have hrl := readL_len hs bs i.a 6
  have HD' := Lib.hid hd
  have HA' := Lib.hid ha
  clear hd ha
  have hglt := hl.blk.lt
  have l3 := hl.blk.cell 3
  have l4 := hl.blk.cell 4
  simp at l3 l4
  go_enter Tryd.func31, Tryd.ntmps31
  go_upto_region 0 with fail
  go_cut [2, 3] (fun s2 s3 wx => ∃ kd ka : Nat, s2 = .pointer (some ⟨kd, 0, none⟩) ∧ s3 = .pointer (some ⟨ka, 0, none⟩) ∧ Blk wx kd 36 #[.bool false, .int .i64 dn] ∧ Blk wx ka 36 #[.bool true, .int .i64 an] ∧ Cho wx g base i A hs hc bs ov out ∧ CS w wx g ov ov)
  case first =>
    go_region_held3 (fun w' => w'.cell? ⟨g, 3, none⟩ = some (.int .i64 i.d) ∧ w'.cell? ⟨g, 4, none⟩ = some (.int .i64 i.a))
      (first
        | (go_keep; done)
        | (refine ⟨?_, ?_⟩ <;> exact cell_of_blk (Cho.blk (i := i) (A := A) (hs := hs) (hc := hc) (bs := bs) (ov := ov) (out := out) (base := base) (by repeat (first | with_reducible exact hl | apply Cho.drewN | apply Cho.drew | apply Cho.alloc))) (by rfl)))
      (first
        | (go_at_call_of 57 (Value.int .i64 i.d); refine (HHD.out _ (by repeat (first | with_reducible exact hl | apply Cho.drewN | apply Cho.drew | apply Cho.alloc))).mono ?_; rintro e w1 ⟨rfl, rfl⟩)
        | (go_at_call_of 57 (Value.int .i64 i.a); refine (HHA.out _ (by repeat (first | with_reducible exact hl | apply Cho.drewN | apply Cho.drew | apply Cho.alloc))).mono ?_; rintro e w1 ⟨rfl, rfl⟩))
    all_goals
      go_wp2_with fail
      go_meet
      exact ⟨_, _, rfl, rfl, (by repeat (first | (with_reducible assumption) | (refine Blk.newAt ?_; simp; done) | (refine Blk.newAt ?_; simp; omega) | (refine Blk.newAt ?_; rfl) | apply Blk.alloc | apply Blk.drew | apply Blk.drewN)), (by repeat (first | (with_reducible assumption) | (refine Blk.newAt ?_; simp; done) | (refine Blk.newAt ?_; simp; omega) | (refine Blk.newAt ?_; rfl) | apply Blk.alloc | apply Blk.drew | apply Blk.drewN)), (by repeat (first | with_reducible exact hl | apply Cho.drewN | apply Cho.drew | apply Cho.alloc)), (by repeat (first  | exact CS.refl _ _ _ | apply CS.drewN | apply CS.drew | apply CS.alloc))⟩
  case rest =>
    obtain ⟨kd, ka, rfl, rfl, bd, ba, hl1, hs1⟩ := hcut
    have hglt1 := hl1.blk.lt
    have m4 := hl1.blk.cell 4
    have d0 := bd.cell 0
    have d1 := bd.cell 1
    have a0 := ba.cell 0
    have a1 := ba.cell 1
    simp at m4 d0 d1 a0 a1
    have hrd := fun W AV O (hl : Cho W g base i A hs hc bs AV O) hn => read_slot W g base i A hs hc bs AV O i.a (IntKind.u8.wrap dn) an hl HA'.out hn
    have HRD := Lib.hid hrd
    clear hrd
    go_wp2_with fail
    go_region_held3 (fun w' => w'.cell? ⟨g, 4, none⟩ = some (.int .i64 i.a) ∧ w'.cell? ⟨kd, 0, none⟩ = some (.bool false) ∧ w'.cell? ⟨kd, 1, none⟩ = some (.int .i64 dn))
      (first
        | (go_keep; done)
        | (refine ⟨cell_of_blk hl2.blk (by rfl), cell_of_blk bd2 (by rfl), cell_of_blk bd2 (by rfl)⟩))
      (first
        | (go_at_call 58; refine (HRD.out _ ov out (by repeat (first | with_reducible exact hl1 | apply Cho.drewN | apply Cho.drew | apply Cho.alloc)) (by omega)).mono ?_; rintro e w2 ⟨rfl, ov2, hl2, hs2⟩; have bd2 := hs2.blk (by repeat (first | with_reducible exact hl1 | apply Cho.drewN | apply Cho.drew | apply Cho.alloc)) (g := g) (k := kd) (t := 36) (cs := #[.bool false, .int .i64 dn]) (by repeat (first | (with_reducible assumption) | (refine Blk.newAt ?_; simp; done) | (refine Blk.newAt ?_; rfl) | apply Blk.alloc | apply Blk.drew | apply Blk.drewN)) (by decide) (.inl (by decide))))
    all_goals
      go_wp2_with fail
      go_end0
      exact ⟨rfl, ov2, hl2, CS.trans hs1.drew hs2⟩

set_option maxRecDepth 100000 in
set_option maxHeartbeats 6400000 in
theorem move_none (w : World) (g base : Nat) (i : I9) (A : Option Addr) (hs : List HV) (hc : Nat) (bs : Int) (ov : Value) (out : List C5) (dn an : Int) (hl : Cho w g base i A hs hc bs ov out) (hn : out.length < 1000000) (hd : homeOf hs i.d = ⟨false, dn⟩) (ha : homeOf hs i.a = ⟨false, an⟩) (hda : dn = an) :
    Calls Tryd.prog 31 #[.pointer (some ⟨g, 0, none⟩)] w fun e w' => e = .returned (.tuple #[]) ∧ ∃ ov', Cho w' g base i A hs hc bs ov' (out ++ []) ∧ CS w w' g ov ov' := by
  subst hda
  have hhd := fun W => home_any W g base i A hs hc bs ov out i.d
  have hha := fun W => home_any W g base i A hs hc bs ov out i.a
  rw [hd] at hhd
  rw [ha] at hha
  have HHD := Lib.hid hhd
  have HHA := Lib.hid hha
  clear hhd hha
  have hrl := readL_len hs bs i.a 6
  have HD' := Lib.hid hd
  have HA' := Lib.hid ha
  clear hd ha
  have hglt := hl.blk.lt
  have l3 := hl.blk.cell 3
  have l4 := hl.blk.cell 4
  simp at l3 l4
  go_enter Tryd.func31, Tryd.ntmps31
  go_upto_region 0 with fail
  go_cut [2, 3] (fun s2 s3 wx => ∃ kd ka : Nat, s2 = .pointer (some ⟨kd, 0, none⟩) ∧ s3 = .pointer (some ⟨ka, 0, none⟩) ∧ Blk wx kd 36 #[.bool false, .int .i64 dn] ∧ Blk wx ka 36 #[.bool false, .int .i64 dn] ∧ Cho wx g base i A hs hc bs ov out ∧ CS w wx g ov ov)
  case first =>
    go_region_held3 (fun w' => w'.cell? ⟨g, 3, none⟩ = some (.int .i64 i.d) ∧ w'.cell? ⟨g, 4, none⟩ = some (.int .i64 i.a))
      (first
        | (go_keep; done)
        | (refine ⟨?_, ?_⟩ <;> exact cell_of_blk (Cho.blk (i := i) (A := A) (hs := hs) (hc := hc) (bs := bs) (ov := ov) (out := out) (base := base) (by repeat (first | with_reducible exact hl | apply Cho.drewN | apply Cho.drew | apply Cho.alloc))) (by rfl)))
      (first
        | (go_at_call_of 57 (Value.int .i64 i.d); refine (HHD.out _ (by repeat (first | with_reducible exact hl | apply Cho.drewN | apply Cho.drew | apply Cho.alloc))).mono ?_; rintro e w1 ⟨rfl, rfl⟩)
        | (go_at_call_of 57 (Value.int .i64 i.a); refine (HHA.out _ (by repeat (first | with_reducible exact hl | apply Cho.drewN | apply Cho.drew | apply Cho.alloc))).mono ?_; rintro e w1 ⟨rfl, rfl⟩))
    all_goals
      go_wp2_with fail
      go_meet
      exact ⟨_, _, rfl, rfl, (by repeat (first | (with_reducible assumption) | (refine Blk.newAt ?_; simp; done) | (refine Blk.newAt ?_; simp; omega) | (refine Blk.newAt ?_; rfl) | apply Blk.alloc | apply Blk.drew | apply Blk.drewN)), (by repeat (first | (with_reducible assumption) | (refine Blk.newAt ?_; simp; done) | (refine Blk.newAt ?_; simp; omega) | (refine Blk.newAt ?_; rfl) | apply Blk.alloc | apply Blk.drew | apply Blk.drewN)), (by repeat (first | with_reducible exact hl | apply Cho.drewN | apply Cho.drew | apply Cho.alloc)), (by repeat (first  | exact CS.refl _ _ _ | apply CS.drewN | apply CS.drew | apply CS.alloc))⟩
  case rest =>
    obtain ⟨kd, ka, rfl, rfl, bd, ba, hl1, hs1⟩ := hcut
    have hglt1 := hl1.blk.lt
    have m4 := hl1.blk.cell 4
    have d0 := bd.cell 0
    have d1 := bd.cell 1
    have a0 := ba.cell 0
    have a1 := ba.cell 1
    simp at m4 d0 d1 a0 a1
    have t1 : (dn == dn) = true := by simp
    have t2 : (dn != dn) = false := by simp
    go_wp2_with fail
    go_end0
    exact ⟨rfl, ov, by simpa using hl1, hs1⟩

set_option maxRecDepth 100000 in
set_option maxHeartbeats 6400000 in
theorem move_reg (w : World) (g base : Nat) (i : I9) (A : Option Addr) (hs : List HV) (hc : Nat) (bs : Int) (ov : Value) (out : List C5) (dn an : Int) (hl : Cho w g base i A hs hc bs ov out) (hn : out.length < 1000000) (hd : homeOf hs i.d = ⟨false, dn⟩) (ha : homeOf hs i.a = ⟨false, an⟩) (hda : dn ≠ an) :
    Calls Tryd.prog 31 #[.pointer (some ⟨g, 0, none⟩)] w fun e w' => e = .returned (.tuple #[]) ∧ ∃ ov', Cho w' g base i A hs hc bs ov' (out ++ [⟨3, IntKind.u8.wrap dn, IntKind.u8.wrap an, 0, 0⟩]) ∧ CS w w' g ov ov' := by
  have hhd := fun W => home_any W g base i A hs hc bs ov out i.d
  have hha := fun W => home_any W g base i A hs hc bs ov out i.a
  rw [hd] at hhd
  rw [ha] at hha
  have HHD := Lib.hid hhd
  have HHA := Lib.hid hha
  clear hhd hha
  have hrl := readL_len hs bs i.a 6
  have HD' := Lib.hid hd
  have HA' := Lib.hid ha
  clear hd ha
  have hglt := hl.blk.lt
  have l3 := hl.blk.cell 3
  have l4 := hl.blk.cell 4
  simp at l3 l4
  go_enter Tryd.func31, Tryd.ntmps31
  go_upto_region 0 with fail
  go_cut [2, 3] (fun s2 s3 wx => ∃ kd ka : Nat, s2 = .pointer (some ⟨kd, 0, none⟩) ∧ s3 = .pointer (some ⟨ka, 0, none⟩) ∧ Blk wx kd 36 #[.bool false, .int .i64 dn] ∧ Blk wx ka 36 #[.bool false, .int .i64 an] ∧ Cho wx g base i A hs hc bs ov out ∧ CS w wx g ov ov)
  case first =>
    go_region_held3 (fun w' => w'.cell? ⟨g, 3, none⟩ = some (.int .i64 i.d) ∧ w'.cell? ⟨g, 4, none⟩ = some (.int .i64 i.a))
      (first
        | (go_keep; done)
        | (refine ⟨?_, ?_⟩ <;> exact cell_of_blk (Cho.blk (i := i) (A := A) (hs := hs) (hc := hc) (bs := bs) (ov := ov) (out := out) (base := base) (by repeat (first | with_reducible exact hl | apply Cho.drewN | apply Cho.drew | apply Cho.alloc))) (by rfl)))
      (first
        | (go_at_call_of 57 (Value.int .i64 i.d); refine (HHD.out _ (by repeat (first | with_reducible exact hl | apply Cho.drewN | apply Cho.drew | apply Cho.alloc))).mono ?_; rintro e w1 ⟨rfl, rfl⟩)
        | (go_at_call_of 57 (Value.int .i64 i.a); refine (HHA.out _ (by repeat (first | with_reducible exact hl | apply Cho.drewN | apply Cho.drew | apply Cho.alloc))).mono ?_; rintro e w1 ⟨rfl, rfl⟩))
    all_goals
      go_wp2_with fail
      go_meet
      exact ⟨_, _, rfl, rfl, (by repeat (first | (with_reducible assumption) | (refine Blk.newAt ?_; simp; done) | (refine Blk.newAt ?_; simp; omega) | (refine Blk.newAt ?_; rfl) | apply Blk.alloc | apply Blk.drew | apply Blk.drewN)), (by repeat (first | (with_reducible assumption) | (refine Blk.newAt ?_; simp; done) | (refine Blk.newAt ?_; simp; omega) | (refine Blk.newAt ?_; rfl) | apply Blk.alloc | apply Blk.drew | apply Blk.drewN)), (by repeat (first | with_reducible exact hl | apply Cho.drewN | apply Cho.drew | apply Cho.alloc)), (by repeat (first  | exact CS.refl _ _ _ | apply CS.drewN | apply CS.drew | apply CS.alloc))⟩
  case rest =>
    obtain ⟨kd, ka, rfl, rfl, bd, ba, hl1, hs1⟩ := hcut
    have hglt1 := hl1.blk.lt
    have m4 := hl1.blk.cell 4
    have d0 := bd.cell 0
    have d1 := bd.cell 1
    have a0 := ba.cell 0
    have a1 := ba.cell 1
    simp at m4 d0 d1 a0 a1
    have t1 : (dn == an) = false := by simpa using hda
    have t2 : (dn != an) = true := by simpa using hda
    clear hda
    go_wp2_with fail
    refine (add_any _ g _ base i A hs hc bs ov out [⟨3, IntKind.u8.wrap dn, IntKind.u8.wrap an, 0, 0⟩] _ (by repeat (first | with_reducible exact hl1 | apply Cho.drewN | apply Cho.drew | apply Cho.alloc)) (by repeat (first | (with_reducible assumption) | (refine Blk.newAt ?_; simp; done) | (refine Blk.newAt ?_; rfl) | apply Blk.alloc | apply Blk.drew | apply Blk.drewN)) (by simp) (by simp; omega)).mono ?_
    rintro e w2 ⟨rfl, ov2, hl2, hs2⟩
    go_wp2_with fail
    go_end0
    exact ⟨rfl, ov2, hl2, CS.trans (by repeat (first | with_reducible exact hs1 | exact CS.refl _ _ _ | apply CS.drewN | apply CS.drew | apply CS.alloc)) hs2⟩

theorem move_any : ChoSaid 31 moveL := by
  intro w g base i A hs hc bs ov out hl hn
  rcases hd : homeOf hs i.d with ⟨dsl, dn⟩
  rcases ha : homeOf hs i.a with ⟨asl, an⟩
  cases dsl
  · cases asl
    · by_cases hda : dn = an
      · simpa [moveL, hd, ha, hda] using move_none w g base i A hs hc bs ov out dn an hl hn hd ha hda
      · simpa [moveL, hd, ha, hda] using move_reg w g base i A hs hc bs ov out dn an hl hn hd ha hda
    · simpa [moveL, readL, hd, ha] using move_load w g base i A hs hc bs ov out dn an hl hn hd ha
  · simpa [moveL, hd, ha] using move_slot w g base i A hs hc bs ov out dn an asl hl hn hd ha
end Go.Proofs.YthkiajbgdamjgaaDoor

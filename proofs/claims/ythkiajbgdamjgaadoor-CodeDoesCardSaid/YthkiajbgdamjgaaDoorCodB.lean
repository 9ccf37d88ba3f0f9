/- Package code: read, make, of, and the plain methods. -/
import Derived.Test.YthkiajbgdamjgaaDoorCodA
namespace Go.Proofs.YthkiajbgdamjgaaDoor
open Go.RowKit

set_option maxRecDepth 100000 in
set_option maxHeartbeats 6400000 in
theorem read_reg (w : World) (g base : Nat) (i : I9) (A : Option Addr) (hs : List HV) (hc : Nat) (bs : Int) (ov : Value) (out : List C5) (v into n : Int)
    (hl : Cho w g base i A hs hc bs ov out) (hh : homeOf hs v = ⟨false, n⟩) :
    Calls Tryd.prog 58 #[.pointer (some ⟨g, 0, none⟩), .int .i64 v, .int .u8 into] w fun e w' => e = .returned (.int .u8 (IntKind.u8.wrap n)) ∧ Cho w' g base i A hs hc bs ov out ∧ CS w w' g ov ov := by
  have hhome := fun W => home_any W g base i A hs hc bs ov out v
  rw [hh] at hhome
  have HH := Lib.hid hhome
  clear hhome hh
  have hglt := hl.blk.lt
  go_enter Tryd.func58, Tryd.ntmps58
  go_wp2_with (go_at_call 57; refine (HH.out _ hl).mono ?_; rintro e w1 ⟨rfl, rfl⟩)
  go_ret
  exact ⟨rfl, (hl.alloc _).alloc _, ((CS.refl w g ov).alloc _).alloc _⟩

set_option maxRecDepth 100000 in
set_option maxHeartbeats 6400000 in
theorem read_slot (w : World) (g base : Nat) (i : I9) (A : Option Addr) (hs : List HV) (hc : Nat) (bs : Int) (ov : Value) (out : List C5) (v into n : Int)
    (hl : Cho w g base i A hs hc bs ov out) (hh : homeOf hs v = ⟨true, n⟩) (hn : out.length + 1 < 1000000000000) :
    Calls Tryd.prog 58 #[.pointer (some ⟨g, 0, none⟩), .int .i64 v, .int .u8 into] w fun e w' => e = .returned (.int .u8 into) ∧
      ∃ ov', Cho w' g base i A hs hc bs ov' (out ++ [⟨12, into, 0, 0, wrap32 (wrap64 (bs + n))⟩]) ∧ CS w w' g ov ov' := by
  have hhome := fun W => home_any W g base i A hs hc bs ov out v
  rw [hh] at hhome
  have HH := Lib.hid hhome
  clear hhome hh
  have hglt := hl.blk.lt
  go_enter Tryd.func58, Tryd.ntmps58
  go_wp2_with fail
  refine (HH.out _ hl).mono ?_
  rintro e w1 ⟨rfl, rfl⟩
  go_wp2_with fail
  refine (word_any _ g base i A hs hc bs ov out ⟨true, n⟩ ((hl.alloc _).alloc _)).mono ?_
  rintro e w1 ⟨rfl, k, rfl⟩
  go_wp2_with fail
  refine (add_any _ g _ base i A hs hc bs ov out [⟨12, into, 0, 0, wrap32 (wrap64 (bs + n))⟩] _ (by repeat (first | with_reducible exact hl | apply Cho.drewN | apply Cho.drew | apply Cho.alloc)) (by repeat (first | (with_reducible assumption) | (refine Blk.newAt ?_; simp; done) | (refine Blk.newAt ?_; rfl) | apply Blk.alloc | apply Blk.drew | apply Blk.drewN)) (by simp) (by simpa using hn)).mono ?_
  rintro e w2 ⟨rfl, ov2, hl2, hs2⟩
  go_wp2_with fail
  go_ret
  exact ⟨rfl, ov2, hl2, CS.trans (by repeat (first  | exact CS.refl _ _ _ | apply CS.drewN | apply CS.drew | apply CS.alloc)) hs2⟩

/-- What read answers, and what it adds. -/
def readR (hs : List HV) (v into : Int) : Int := if (homeOf hs v).isSlot then into else IntKind.u8.wrap (homeOf hs v).n
def readL (hs : List HV) (bs v into : Int) : List C5 := if (homeOf hs v).isSlot then [⟨12, into, 0, 0, wrap32 (wrap64 (bs + (homeOf hs v).n))⟩] else []
theorem readL_len (hs : List HV) (bs v into : Int) : (readL hs bs v into).length ≤ 1 := by unfold readL; split <;> simp
theorem read_any (w : World) (g base : Nat) (i : I9) (A : Option Addr) (hs : List HV) (hc : Nat) (bs : Int) (ov : Value) (out : List C5) (v into : Int)
    (hl : Cho w g base i A hs hc bs ov out) (hn : out.length + 1 < 1000000000000) :
    Calls Tryd.prog 58 #[.pointer (some ⟨g, 0, none⟩), .int .i64 v, .int .u8 into] w fun e w' => e = .returned (.int .u8 (readR hs v into)) ∧
      ∃ ov', Cho w' g base i A hs hc bs ov' (out ++ readL hs bs v into) ∧ CS w w' g ov ov' := by
  rcases hh : homeOf hs v with ⟨sl, n⟩
  cases sl
  · refine (read_reg w g base i A hs hc bs ov out v into n hl hh).mono fun e w' h => ?_
    obtain ⟨rfl, h1, h2⟩ := h
    exact ⟨by simp [readR, hh], ov, by simpa [readL, hh] using h1, h2⟩
  · refine (read_slot w g base i A hs hc bs ov out v into n hl hh hn).mono fun e w' h => ?_
    obtain ⟨rfl, ov', h1, h2⟩ := h
    exact ⟨by simp [readR, hh], ov', by simpa [readL, hh] using h1, h2⟩

/-- What make adds. -/
def makeL (hs : List HV) (bs d : Int) (x : C5) : List C5 :=
  if (homeOf hs d).isSlot then [⟨x.op, 6, x.b, x.c, x.n⟩, ⟨13, 6, 0, 0, wrap32 (wrap64 (bs + (homeOf hs d).n))⟩] else [⟨x.op, IntKind.u8.wrap (homeOf hs d).n, x.b, x.c, x.n⟩]
theorem makeL_len (hs : List HV) (bs d : Int) (x : C5) : (makeL hs bs d x).length ≤ 2 := by unfold makeL; split <;> simp
set_option maxRecDepth 100000 in
set_option maxHeartbeats 6400000 in
theorem make_reg (w : World) (g base : Nat) (i : I9) (A : Option Addr) (hs : List HV) (hc : Nat) (bs : Int) (ov : Value) (out : List C5) (x0 x1 x2 x3 x4 n : Int)
    (hl : Cho w g base i A hs hc bs ov out) (hh : homeOf hs i.d = ⟨false, n⟩) (hn : out.length + 2 < 1000000000000) :
    Calls Tryd.prog 56 #[.pointer (some ⟨g, 0, none⟩), .agg #[.int .u8 x0, .int .u8 x1, .int .u8 x2, .int .u8 x3, .int .i32 x4]] w fun e w' => e = .returned (.tuple #[]) ∧
      ∃ ov', Cho w' g base i A hs hc bs ov' (out ++ [⟨x0, IntKind.u8.wrap n, x2, x3, x4⟩]) ∧ CS w w' g ov ov' := by
  have hhome := fun W => home_any W g base i A hs hc bs ov out i.d
  rw [hh] at hhome
  have HH := Lib.hid hhome
  clear hhome hh
  have hglt := hl.blk.lt
  have l3 := hl.blk.cell 3
  simp at l3
  go_enter Tryd.func56, Tryd.ntmps56
  go_wp2_with fail
  refine (HH.out _ (by repeat (first | with_reducible exact hl | apply Cho.drewN | apply Cho.drew | apply Cho.alloc))).mono ?_
  rintro e w1 ⟨rfl, rfl⟩
  go_wp2_with fail
  refine (add_any _ g _ base i A hs hc bs ov out [⟨x0, IntKind.u8.wrap n, x2, x3, x4⟩] _ (by repeat (first | with_reducible exact hl | apply Cho.drewN | apply Cho.drew | apply Cho.alloc)) (by repeat (first | (with_reducible assumption) | (refine Blk.newAt ?_; simp; done) | (refine Blk.newAt ?_; rfl) | apply Blk.alloc | apply Blk.drew | apply Blk.drewN)) (by simp) (by simp; omega)).mono ?_
  rintro e w2 ⟨rfl, ov2, hl2, hs2⟩
  go_wp2_with fail
  refine bodyPost_ret (results_none rfl _ _ _) rfl ?_
  exact ⟨rfl, ov2, hl2, CS.trans (by repeat (first  | exact CS.refl _ _ _ | apply CS.drewN | apply CS.drew | apply CS.alloc)) hs2⟩

set_option maxRecDepth 100000 in
set_option maxHeartbeats 6400000 in
theorem make_slot (w : World) (g base : Nat) (i : I9) (A : Option Addr) (hs : List HV) (hc : Nat) (bs : Int) (ov : Value) (out : List C5) (x0 x1 x2 x3 x4 n : Int)
    (hl : Cho w g base i A hs hc bs ov out) (hh : homeOf hs i.d = ⟨true, n⟩) (hn : out.length + 2 < 1000000000000) :
    Calls Tryd.prog 56 #[.pointer (some ⟨g, 0, none⟩), .agg #[.int .u8 x0, .int .u8 x1, .int .u8 x2, .int .u8 x3, .int .i32 x4]] w fun e w' => e = .returned (.tuple #[]) ∧
      ∃ ov', Cho w' g base i A hs hc bs ov' (out ++ [⟨x0, 6, x2, x3, x4⟩, ⟨13, 6, 0, 0, wrap32 (wrap64 (bs + n))⟩]) ∧ CS w w' g ov ov' := by
  have hhome := fun W => home_any W g base i A hs hc bs ov out i.d
  rw [hh] at hhome
  have HH := Lib.hid hhome
  clear hhome hh
  have hglt := hl.blk.lt
  have l3 := hl.blk.cell 3
  simp at l3
  go_enter Tryd.func56, Tryd.ntmps56
  go_wp2_with fail
  refine (HH.out _ (by repeat (first | with_reducible exact hl | apply Cho.drewN | apply Cho.drew | apply Cho.alloc))).mono ?_
  rintro e w1 ⟨rfl, rfl⟩
  go_wp2_with fail
  have hH : ov.ownBlock ≠ some w.heap.size := fun hc => by have := hl.own.lt _ hc; omega
  go_region_held3 (fun w' => w'.cell? ⟨w.heap.size, 0, none⟩ = some (.int .u8 x0) ∧ w'.cell? ⟨w.heap.size, 1, none⟩ = some (.int .u8 6) ∧ w'.cell? ⟨w.heap.size, 2, none⟩ = some (.int .u8 x2) ∧ w'.cell? ⟨w.heap.size, 3, none⟩ = some (.int .u8 x3) ∧ w'.cell? ⟨w.heap.size, 4, none⟩ = some (.int .i32 x4) ∧
      w'.cell? ⟨w.heap.size + 1 + 1, 0, none⟩ = some (.bool true) ∧ w'.cell? ⟨w.heap.size + 1 + 1, 1, none⟩ = some (.int .i64 n))
    (first
      | (go_keep; done)
      | (refine ⟨?_, ?_, ?_, ?_, ?_, ?_, ?_⟩ <;> exact cell_of_blk (by repeat (first | (with_reducible assumption) | (refine Blk.newAt ?_; simp; done) | (refine Blk.newAt ?_; rfl) | apply Blk.alloc | apply Blk.drew | apply Blk.drewN)) (by rfl)))
    (first
      | (go_at_call 59; refine (word_any _ g base i A hs hc bs ov out ⟨true, n⟩ (by repeat (first | with_reducible exact hl | apply Cho.drewN | apply Cho.drew | apply Cho.alloc))).mono ?_; rintro e w1 ⟨rfl, k, rfl⟩)
      | (go_at_call 54; refine (add_any _ g _ base i A hs hc bs ov out [⟨x0, 6, x2, x3, x4⟩, ⟨13, 6, 0, 0, wrap32 (wrap64 (bs + n))⟩] _ (by repeat (first | with_reducible exact hl | apply Cho.drewN | apply Cho.drew | apply Cho.alloc)) (by repeat (first | (with_reducible assumption) | (refine Blk.newAt ?_; simp; done) | (refine Blk.newAt ?_; rfl) | apply Blk.alloc | apply Blk.drew | apply Blk.drewN)) (by simp) (by simpa using hn)).mono ?_; rintro e w2 ⟨rfl, ov2, hl2, hs2⟩; have b1 : Blk w2 w.heap.size 49 #[.int .u8 x0, .int .u8 6, .int .u8 x2, .int .u8 x3, .int .i32 x4] := hs2.blk (by repeat (first | with_reducible exact hl | apply Cho.drewN | apply Cho.drew | apply Cho.alloc)) (by repeat (first | (with_reducible assumption) | (refine Blk.newAt ?_; simp; done) | (refine Blk.newAt ?_; rfl) | apply Blk.alloc | apply Blk.drew | apply Blk.drewN)) (by decide) (.inr hH); have b2 : Blk w2 (w.heap.size + 1 + 1) 36 #[.bool true, .int .i64 n] := hs2.blk (by repeat (first | with_reducible exact hl | apply Cho.drewN | apply Cho.drew | apply Cho.alloc)) (by repeat (first | (with_reducible assumption) | (refine Blk.newAt ?_; simp; done) | (refine Blk.newAt ?_; rfl) | apply Blk.alloc | apply Blk.drew | apply Blk.drewN)) (by decide) (.inl (by decide)); have q0 := b1.cell 0; have q1 := b1.cell 1; have q2 := b1.cell 2; have q3 := b1.cell 3; have q4 := b1.cell 4; have r0 := b2.cell 0; have r1 := b2.cell 1; simp at q0 q1 q2 q3 q4 r0 r1; have hS2 : CS w w2 g ov ov2 := CS.trans (by repeat (first  | exact CS.refl _ _ _ | apply CS.drewN | apply CS.drew | apply CS.alloc)) hs2))
  all_goals
    go_wp2_with fail
    go_end0
    exact ⟨rfl, ov2, hl2, hS2⟩

theorem make_any (w : World) (g base : Nat) (i : I9) (A : Option Addr) (hs : List HV) (hc : Nat) (bs : Int) (ov : Value) (out : List C5) (x : C5)
    (hl : Cho w g base i A hs hc bs ov out) (hn : out.length + 2 < 1000000000000) :
    Calls Tryd.prog 56 #[.pointer (some ⟨g, 0, none⟩), .agg #[.int .u8 x.op, .int .u8 x.a, .int .u8 x.b, .int .u8 x.c, .int .i32 x.n]] w fun e w' => e = .returned (.tuple #[]) ∧
      ∃ ov', Cho w' g base i A hs hc bs ov' (out ++ makeL hs bs i.d x) ∧ CS w w' g ov ov' := by
  rcases hh : homeOf hs i.d with ⟨sl, n⟩
  cases sl
  · refine (make_reg w g base i A hs hc bs ov out x.op x.a x.b x.c x.n n hl hh hn).mono fun e w' h => ?_
    obtain ⟨rfl, ov', h1, h2⟩ := h
    exact ⟨rfl, ov', by simpa [makeL, hh] using h1, h2⟩
  · refine (make_slot w g base i A hs hc bs ov out x.op x.a x.b x.c x.n n hl hh hn).mono fun e w' h => ?_
    obtain ⟨rfl, ov', h1, h2⟩ := h
    exact ⟨rfl, ov', by simpa [makeL, hh] using h1, h2⟩

/-- What a method of the chooser adds. -/
def ChoSaid (f : FuncId) (outL : I9 → List HV → Int → List C5) : Prop := ∀ (w : World) (g base : Nat) (i : I9) (A : Option Addr) (hs : List HV) (hc : Nat) (bs : Int) (ov : Value) (out : List C5),
  Cho w g base i A hs hc bs ov out → out.length < 1000000 →
  Calls Tryd.prog f #[.pointer (some ⟨g, 0, none⟩)] w fun e w' => e = .returned (.tuple #[]) ∧ ∃ ov', Cho w' g base i A hs hc bs ov' (out ++ outL i hs bs) ∧ CS w w' g ov ov'

set_option maxRecDepth 100000 in
set_option maxHeartbeats 6400000 in
theorem stop_any : ChoSaid 21 (fun i _ _ => [⟨0, 0, 0, 0, wrap32 i.n⟩]) := by
  intro w g base i A hs hc bs ov out hl hn
  have hglt := hl.blk.lt
  go_enter Tryd.func21, Tryd.ntmps21
  go_wp2_with fail
  refine (n_any _ g base i A hs hc bs ov out hl).mono ?_
  rintro e w1 ⟨rfl, rfl⟩
  go_wp2_with fail
  refine (add_any _ g _ base i A hs hc bs ov out [⟨0, 0, 0, 0, wrap32 i.n⟩] _ (by repeat (first | with_reducible exact hl | apply Cho.drewN | apply Cho.drew | apply Cho.alloc)) (by repeat (first | (with_reducible assumption) | (refine Blk.newAt ?_; simp; done) | (refine Blk.newAt ?_; rfl) | apply Blk.alloc | apply Blk.drew | apply Blk.drewN)) (by simp) (by simp; omega)).mono ?_
  rintro e w2 ⟨rfl, ov2, hl2, hs2⟩
  go_wp2_with fail
  go_end0
  exact ⟨rfl, ov2, hl2, CS.trans (by repeat (first  | exact CS.refl _ _ _ | apply CS.drewN | apply CS.drew | apply CS.alloc)) hs2⟩

set_option maxRecDepth 100000 in
set_option maxHeartbeats 6400000 in
theorem wait_any : ChoSaid 22 (fun i _ _ => [⟨1, 0, 0, 0, wrap32 i.n⟩]) := by
  intro w g base i A hs hc bs ov out hl hn
  have hglt := hl.blk.lt
  go_enter Tryd.func22, Tryd.ntmps22
  go_wp2_with fail
  refine (n_any _ g base i A hs hc bs ov out hl).mono ?_
  rintro e w1 ⟨rfl, rfl⟩
  go_wp2_with fail
  refine (add_any _ g _ base i A hs hc bs ov out [⟨1, 0, 0, 0, wrap32 i.n⟩] _ (by repeat (first | with_reducible exact hl | apply Cho.drewN | apply Cho.drew | apply Cho.alloc)) (by repeat (first | (with_reducible assumption) | (refine Blk.newAt ?_; simp; done) | (refine Blk.newAt ?_; rfl) | apply Blk.alloc | apply Blk.drew | apply Blk.drewN)) (by simp) (by simp; omega)).mono ?_
  rintro e w2 ⟨rfl, ov2, hl2, hs2⟩
  go_wp2_with fail
  go_end0
  exact ⟨rfl, ov2, hl2, CS.trans (by repeat (first  | exact CS.refl _ _ _ | apply CS.drewN | apply CS.drew | apply CS.alloc)) hs2⟩

set_option maxRecDepth 100000 in
set_option maxHeartbeats 6400000 in
theorem jump_any : ChoSaid 23 (fun i _ _ => [⟨20, 0, 0, 0, wrap32 i.n⟩]) := by
  intro w g base i A hs hc bs ov out hl hn
  have hglt := hl.blk.lt
  go_enter Tryd.func23, Tryd.ntmps23
  go_wp2_with fail
  refine (n_any _ g base i A hs hc bs ov out hl).mono ?_
  rintro e w1 ⟨rfl, rfl⟩
  go_wp2_with fail
  refine (add_any _ g _ base i A hs hc bs ov out [⟨20, 0, 0, 0, wrap32 i.n⟩] _ (by repeat (first | with_reducible exact hl | apply Cho.drewN | apply Cho.drew | apply Cho.alloc)) (by repeat (first | (with_reducible assumption) | (refine Blk.newAt ?_; simp; done) | (refine Blk.newAt ?_; rfl) | apply Blk.alloc | apply Blk.drew | apply Blk.drewN)) (by simp) (by simp; omega)).mono ?_
  rintro e w2 ⟨rfl, ov2, hl2, hs2⟩
  go_wp2_with fail
  go_end0
  exact ⟨rfl, ov2, hl2, CS.trans (by repeat (first  | exact CS.refl _ _ _ | apply CS.drewN | apply CS.drew | apply CS.alloc)) hs2⟩

set_option maxRecDepth 100000 in
set_option maxHeartbeats 6400000 in
theorem call_any : ChoSaid 24 (fun i _ _ => [⟨15, 0, 0, 0, wrap32 i.n⟩]) := by
  intro w g base i A hs hc bs ov out hl hn
  have hglt := hl.blk.lt
  go_enter Tryd.func24, Tryd.ntmps24
  go_wp2_with fail
  refine (n_any _ g base i A hs hc bs ov out hl).mono ?_
  rintro e w1 ⟨rfl, rfl⟩
  go_wp2_with fail
  refine (add_any _ g _ base i A hs hc bs ov out [⟨15, 0, 0, 0, wrap32 i.n⟩] _ (by repeat (first | with_reducible exact hl | apply Cho.drewN | apply Cho.drew | apply Cho.alloc)) (by repeat (first | (with_reducible assumption) | (refine Blk.newAt ?_; simp; done) | (refine Blk.newAt ?_; rfl) | apply Blk.alloc | apply Blk.drew | apply Blk.drewN)) (by simp) (by simp; omega)).mono ?_
  rintro e w2 ⟨rfl, ov2, hl2, hs2⟩
  go_wp2_with fail
  go_end0
  exact ⟨rfl, ov2, hl2, CS.trans (by repeat (first  | exact CS.refl _ _ _ | apply CS.drewN | apply CS.drew | apply CS.alloc)) hs2⟩

set_option maxRecDepth 100000 in
set_option maxHeartbeats 6400000 in
theorem crit_any : ChoSaid 25 (fun i _ _ => [⟨22, 0, 0, 0, wrap32 i.n⟩]) := by
  intro w g base i A hs hc bs ov out hl hn
  have hglt := hl.blk.lt
  go_enter Tryd.func25, Tryd.ntmps25
  go_wp2_with fail
  refine (n_any _ g base i A hs hc bs ov out hl).mono ?_
  rintro e w1 ⟨rfl, rfl⟩
  go_wp2_with fail
  refine (add_any _ g _ base i A hs hc bs ov out [⟨22, 0, 0, 0, wrap32 i.n⟩] _ (by repeat (first | with_reducible exact hl | apply Cho.drewN | apply Cho.drew | apply Cho.alloc)) (by repeat (first | (with_reducible assumption) | (refine Blk.newAt ?_; simp; done) | (refine Blk.newAt ?_; rfl) | apply Blk.alloc | apply Blk.drew | apply Blk.drewN)) (by simp) (by simp; omega)).mono ?_
  rintro e w2 ⟨rfl, ov2, hl2, hs2⟩
  go_wp2_with fail
  go_end0
  exact ⟨rfl, ov2, hl2, CS.trans (by repeat (first  | exact CS.refl _ _ _ | apply CS.drewN | apply CS.drew | apply CS.alloc)) hs2⟩

set_option maxRecDepth 100000 in
set_option maxHeartbeats 6400000 in
theorem halt_any : ChoSaid 26 (fun i _ _ => [⟨23, 0, 0, 0, wrap32 i.n⟩]) := by
  intro w g base i A hs hc bs ov out hl hn
  have hglt := hl.blk.lt
  go_enter Tryd.func26, Tryd.ntmps26
  go_wp2_with fail
  refine (n_any _ g base i A hs hc bs ov out hl).mono ?_
  rintro e w1 ⟨rfl, rfl⟩
  go_wp2_with fail
  refine (add_any _ g _ base i A hs hc bs ov out [⟨23, 0, 0, 0, wrap32 i.n⟩] _ (by repeat (first | with_reducible exact hl | apply Cho.drewN | apply Cho.drew | apply Cho.alloc)) (by repeat (first | (with_reducible assumption) | (refine Blk.newAt ?_; simp; done) | (refine Blk.newAt ?_; rfl) | apply Blk.alloc | apply Blk.drew | apply Blk.drewN)) (by simp) (by simp; omega)).mono ?_
  rintro e w2 ⟨rfl, ov2, hl2, hs2⟩
  go_wp2_with fail
  go_end0
  exact ⟨rfl, ov2, hl2, CS.trans (by repeat (first  | exact CS.refl _ _ _ | apply CS.drewN | apply CS.drew | apply CS.alloc)) hs2⟩

set_option maxRecDepth 100000 in
set_option maxHeartbeats 6400000 in
theorem number_any : ChoSaid 27 (fun i hs bs => makeL hs bs i.d ⟨2, 0, 0, 0, wrap32 i.n⟩) := by
  intro w g base i A hs hc bs ov out hl hn
  have hglt := hl.blk.lt
  go_enter Tryd.func27, Tryd.ntmps27
  go_wp2_with fail
  refine (n_any _ g base i A hs hc bs ov out hl).mono ?_
  rintro e w1 ⟨rfl, rfl⟩
  go_wp2_with fail
  refine (make_any _ g base i A hs hc bs ov out ⟨2, 0, 0, 0, wrap32 i.n⟩ hl (by omega)).mono ?_
  rintro e w2 ⟨rfl, ov2, hl2, hs2⟩
  go_wp2_with fail
  go_end0
  exact ⟨rfl, ov2, hl2, hs2⟩

set_option maxRecDepth 100000 in
set_option maxHeartbeats 6400000 in
theorem load_any : ChoSaid 28 (fun i hs bs => makeL hs bs i.d ⟨6, 0, 0, 0, wrap32 i.n⟩) := by
  intro w g base i A hs hc bs ov out hl hn
  have hglt := hl.blk.lt
  go_enter Tryd.func28, Tryd.ntmps28
  go_wp2_with fail
  refine (n_any _ g base i A hs hc bs ov out hl).mono ?_
  rintro e w1 ⟨rfl, rfl⟩
  go_wp2_with fail
  refine (make_any _ g base i A hs hc bs ov out ⟨6, 0, 0, 0, wrap32 i.n⟩ hl (by omega)).mono ?_
  rintro e w2 ⟨rfl, ov2, hl2, hs2⟩
  go_wp2_with fail
  go_end0
  exact ⟨rfl, ov2, hl2, hs2⟩

set_option maxRecDepth 100000 in
set_option maxHeartbeats 6400000 in
theorem in_any : ChoSaid 29 (fun i hs bs => makeL hs bs i.d ⟨10, 0, 0, 0, wrap32 i.n⟩) := by
  intro w g base i A hs hc bs ov out hl hn
  have hglt := hl.blk.lt
  go_enter Tryd.func29, Tryd.ntmps29
  go_wp2_with fail
  refine (n_any _ g base i A hs hc bs ov out hl).mono ?_
  rintro e w1 ⟨rfl, rfl⟩
  go_wp2_with fail
  refine (make_any _ g base i A hs hc bs ov out ⟨10, 0, 0, 0, wrap32 i.n⟩ hl (by omega)).mono ?_
  rintro e w2 ⟨rfl, ov2, hl2, hs2⟩
  go_wp2_with fail
  go_end0
  exact ⟨rfl, ov2, hl2, hs2⟩

set_option maxRecDepth 100000 in
set_option maxHeartbeats 6400000 in
theorem result_any : ChoSaid 30 (fun i hs bs => makeL hs bs i.d ⟨19, 0, 0, 0, 0⟩) := by
  intro w g base i A hs hc bs ov out hl hn
  have hglt := hl.blk.lt
  go_enter Tryd.func30, Tryd.ntmps30
  go_wp2_with fail
  refine (make_any _ g base i A hs hc bs ov out ⟨19, 0, 0, 0, 0⟩ hl (by omega)).mono ?_
  rintro e w2 ⟨rfl, ov2, hl2, hs2⟩
  go_wp2_with fail
  go_end0
  exact ⟨rfl, ov2, hl2, hs2⟩

end Go.Proofs.YthkiajbgdamjgaaDoor

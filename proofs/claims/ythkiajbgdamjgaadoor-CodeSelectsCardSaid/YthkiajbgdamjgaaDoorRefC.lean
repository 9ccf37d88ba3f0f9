/- The reference's chooser: read, make. Conditions: fewer than 10^12 instructions. -/
import Derived.Test.YthkiajbgdamjgaaDoorRefB
namespace Go.Proofs.YthkiajbgdamjgaaDoor
set_option linter.unusedVariables false
open Go.RowKit

set_option maxRecDepth 100000 in
set_option maxHeartbeats 6400000 in
theorem rread_reg (w : World) (g base : Nat) (A : Option Addr) (hs : List HV) (hc : Nat) (bs : Int) (ov : Value) (out : List C5) (v into n : Int) (hl : RCho w g base A hs hc bs ov out) (hh : homeOf hs v = ⟨false, n⟩) :
    Calls Tryd.prog 45 #[.pointer (some ⟨g, 0, none⟩), .int .i64 v, .int .u8 into] w fun e w' => e = .returned (.int .u8 (IntKind.u8.wrap n)) ∧ RCho w' g base A hs hc bs ov out ∧ CS w w' g ov ov := by
  have hhome := fun W => rhome_any W g base A hs hc bs ov out v
  rw [hh] at hhome
  have HH := Lib.hid hhome
  clear hhome hh
  have hglt := hl.blk.lt
  go_enter Tryd.func45, Tryd.ntmps45
  go_wp2_with (go_at_call 62; refine (HH.out _ hl).mono ?_; rintro e w1 ⟨rfl, rfl⟩)
  go_ret
  exact ⟨rfl, (hl.alloc _).alloc _, ((CS.refl w g ov).alloc _).alloc _⟩

set_option maxRecDepth 100000 in
set_option maxHeartbeats 6400000 in
theorem rread_slot (w : World) (g base : Nat) (A : Option Addr) (hs : List HV) (hc : Nat) (bs : Int) (ov : Value) (out : List C5) (v into n : Int) (hl : RCho w g base A hs hc bs ov out) (hh : homeOf hs v = ⟨true, n⟩) (hn : out.length + 1 < 1000000000000) :
    Calls Tryd.prog 45 #[.pointer (some ⟨g, 0, none⟩), .int .i64 v, .int .u8 into] w fun e w' => e = .returned (.int .u8 into) ∧
      ∃ ov', RCho w' g base A hs hc bs ov' (out ++ [⟨12, into, 0, 0, wrap32 (wrap64 (bs + n))⟩]) ∧ CS w w' g ov ov' := by
  have hhome := fun W => rhome_any W g base A hs hc bs ov out v
  rw [hh] at hhome
  have HH := Lib.hid hhome
  clear hhome hh
  have hglt := hl.blk.lt
  have l1 := hl.blk.cell 1
  simp at l1
  go_enter Tryd.func45, Tryd.ntmps45
  go_wp2_with fail
  refine (HH.out _ hl).mono ?_
  rintro e w1 ⟨rfl, rfl⟩
  go_wp2_with fail
  go_region_held3 (fun w' => w'.cell? ⟨g, 1, none⟩ = some (.int .i64 bs) ∧ w'.cell? ⟨w.heap.size + 1, 1, none⟩ = some (.int .i64 n))
    (first
      | (go_keep; done)
      | (refine ⟨cell_of_blk hl2.blk (by rfl), cell_of_blk hB (by rfl)⟩))
    (first
      | (go_at_call 41; refine (radd_any _ g base A hs hc bs ov _ 12 into 0 0 _ (by repeat (first | with_reducible exact hl | apply RCho.drewN | apply RCho.drew | apply RCho.alloc)) (by first | omega | (simp; omega))).mono ?_; rintro e w2 ⟨rfl, ov2, hl2, hs2⟩; have hB := hs2.rblk (by repeat (first | with_reducible exact hl | apply RCho.drewN | apply RCho.drew | apply RCho.alloc)) (k := w.heap.size + 1) (t := 36) (cs := #[.bool true, .int .i64 n]) (by repeat (first | (with_reducible assumption) | (refine Blk.newAt ?_; simp; done) | (refine Blk.newAt ?_; rfl) | apply Blk.alloc | apply Blk.drew | apply Blk.drewN)) (by decide) (.inl (by decide))))
  all_goals
    go_wp2_with fail
    go_ret
    rw [show IntKind.u8.wrap 12 = 12 from by decide, IntWalk.i64_left] at hl2
    exact ⟨rfl, ov2, hl2, CS.trans (by repeat (first  | exact CS.refl _ _ _ | apply CS.drewN | apply CS.drew | apply CS.alloc)) hs2⟩

theorem rread_any (w : World) (g base : Nat) (A : Option Addr) (hs : List HV) (hc : Nat) (bs : Int) (ov : Value) (out : List C5) (v into : Int) (hl : RCho w g base A hs hc bs ov out) (hn : out.length + 1 < 1000000000000) :
    Calls Tryd.prog 45 #[.pointer (some ⟨g, 0, none⟩), .int .i64 v, .int .u8 into] w fun e w' => e = .returned (.int .u8 (readR hs v into)) ∧
      ∃ ov', RCho w' g base A hs hc bs ov' (out ++ readL hs bs v into) ∧ CS w w' g ov ov' := by
  rcases hh : homeOf hs v with ⟨sl, n⟩
  cases sl
  · refine (rread_reg w g base A hs hc bs ov out v into n hl hh).mono fun e w' h => ?_
    obtain ⟨rfl, h1, h2⟩ := h
    exact ⟨by simp [readR, hh], ov, by simpa [readL, hh] using h1, h2⟩
  · refine (rread_slot w g base A hs hc bs ov out v into n hl hh hn).mono fun e w' h => ?_
    obtain ⟨rfl, ov', h1, h2⟩ := h
    exact ⟨by simp [readR, hh], ov', by simpa [readL, hh] using h1, h2⟩

set_option maxRecDepth 100000 in
set_option maxHeartbeats 6400000 in
theorem rmake_reg (w : World) (g base : Nat) (A : Option Addr) (hs : List HV) (hc : Nat) (bs : Int) (ov : Value) (out : List C5) (v op b d n0 n : Int) (hl : RCho w g base A hs hc bs ov out) (hh : homeOf hs v = ⟨false, n⟩) (hn : out.length + 2 < 1000000000000) :
    Calls Tryd.prog 43 #[.pointer (some ⟨g, 0, none⟩), .int .i64 v, .int .i64 op, .int .u8 b, .int .u8 d, .int .i64 n0] w fun e w' => e = .returned (.tuple #[]) ∧
      ∃ ov', RCho w' g base A hs hc bs ov' (out ++ [⟨IntKind.u8.wrap op, IntKind.u8.wrap n, b, d, wrap32 n0⟩]) ∧ CS w w' g ov ov' := by
  have hhome := fun W => rhome_any W g base A hs hc bs ov out v
  rw [hh] at hhome
  have HH := Lib.hid hhome
  clear hhome hh
  have hglt := hl.blk.lt
  go_enter Tryd.func43, Tryd.ntmps43
  go_wp2_with fail
  refine (HH.out _ hl).mono ?_
  rintro e w1 ⟨rfl, rfl⟩
  go_wp2_with fail
  refine (radd_any _ g base A hs hc bs ov out op (IntKind.u8.wrap n) b d n0 (by repeat (first | with_reducible exact hl | apply RCho.drewN | apply RCho.drew | apply RCho.alloc)) (by omega)).mono ?_
  rintro e w2 ⟨rfl, ov2, hl2, hs2⟩
  go_wp2_with fail
  refine bodyPost_ret (results_none rfl _ _ _) rfl ?_
  exact ⟨rfl, ov2, hl2, CS.trans (by repeat (first  | exact CS.refl _ _ _ | apply CS.drewN | apply CS.drew | apply CS.alloc)) hs2⟩

set_option maxRecDepth 100000 in
set_option maxHeartbeats 6400000 in
theorem rmake_slot (w : World) (g base : Nat) (A : Option Addr) (hs : List HV) (hc : Nat) (bs : Int) (ov : Value) (out : List C5) (v op b d n0 n : Int) (hl : RCho w g base A hs hc bs ov out) (hh : homeOf hs v = ⟨true, n⟩) (hn : out.length + 2 < 1000000000000) :
    Calls Tryd.prog 43 #[.pointer (some ⟨g, 0, none⟩), .int .i64 v, .int .i64 op, .int .u8 b, .int .u8 d, .int .i64 n0] w fun e w' => e = .returned (.tuple #[]) ∧
      ∃ ov', RCho w' g base A hs hc bs ov' (out ++ [⟨IntKind.u8.wrap op, 6, b, d, wrap32 n0⟩, ⟨13, 6, 0, 0, wrap32 (wrap64 (bs + n))⟩]) ∧ CS w w' g ov ov' := by
  have hhome := fun W => rhome_any W g base A hs hc bs ov out v
  rw [hh] at hhome
  have HH := Lib.hid hhome
  clear hhome hh
  have hglt := hl.blk.lt
  go_enter Tryd.func43, Tryd.ntmps43
  go_wp2_with fail
  refine (HH.out _ hl).mono ?_
  rintro e w1 ⟨rfl, rfl⟩
  go_wp2_with fail
  refine (radd_any _ g base A hs hc bs ov out op 6 b d n0 (by repeat (first | with_reducible exact hl | apply RCho.drewN | apply RCho.drew | apply RCho.alloc)) (by omega)).mono ?_
  rintro e w2 ⟨rfl, ov1, hl1, hs1⟩
  have hB1 := hs1.rblk (by repeat (first | with_reducible exact hl | apply RCho.drewN | apply RCho.drew | apply RCho.alloc)) (k := w.heap.size + 1) (t := 36) (cs := #[.bool true, .int .i64 n]) (by repeat (first | (with_reducible assumption) | (refine Blk.newAt ?_; simp; done) | (refine Blk.newAt ?_; rfl) | apply Blk.alloc | apply Blk.drew | apply Blk.drewN)) (by decide) (.inl (by decide))
  have l1 := hl1.blk.cell 1
  have l2 := hB1.cell 1
  simp at l1 l2
  have hglt1 := hl1.blk.lt
  have hblt1 := hB1.lt
  go_wp2_with fail
  go_region_held3 (fun w' => w'.cell? ⟨g, 1, none⟩ = some (.int .i64 bs) ∧ w'.cell? ⟨w.heap.size + 1, 1, none⟩ = some (.int .i64 n))
    (first
      | (go_keep; done)
      | (refine ⟨cell_of_blk hl2.blk (by rfl), cell_of_blk hB (by rfl)⟩))
    (first
      | (go_at_call 41; refine (radd_any _ g base A hs hc bs ov1 _ 13 6 0 0 _ (by repeat (first | with_reducible exact hl1 | apply RCho.drewN | apply RCho.drew | apply RCho.alloc)) (by first | omega | (simp; omega))).mono ?_; rintro e w2 ⟨rfl, ov2, hl2, hs2⟩; have hB := hs2.rblk (by repeat (first | with_reducible exact hl1 | apply RCho.drewN | apply RCho.drew | apply RCho.alloc)) (k := w.heap.size + 1) (t := 36) (cs := #[.bool true, .int .i64 n]) (by repeat (first | (with_reducible assumption) | (refine Blk.newAt ?_; simp; done) | (refine Blk.newAt ?_; rfl) | apply Blk.alloc | apply Blk.drew | apply Blk.drewN)) (by decide) (.inl (by decide))))
  all_goals
    go_wp2_with fail
    go_end0
    rw [show IntKind.u8.wrap 13 = 13 from by decide, IntWalk.i64_left] at hl2
    exact ⟨rfl, ov2, by simpa using hl2, CS.trans (CS.trans (by repeat (first  | exact CS.refl _ _ _ | apply CS.drewN | apply CS.drew | apply CS.alloc)) hs1) (CS.trans (by repeat (first  | exact CS.refl _ _ _ | apply CS.drewN | apply CS.drew | apply CS.alloc)) hs2)⟩

theorem rmake_any (w : World) (g base : Nat) (A : Option Addr) (hs : List HV) (hc : Nat) (bs : Int) (ov : Value) (out : List C5) (v op b d n0 : Int) (hl : RCho w g base A hs hc bs ov out) (hn : out.length + 2 < 1000000000000) :
    Calls Tryd.prog 43 #[.pointer (some ⟨g, 0, none⟩), .int .i64 v, .int .i64 op, .int .u8 b, .int .u8 d, .int .i64 n0] w fun e w' => e = .returned (.tuple #[]) ∧
      ∃ ov', RCho w' g base A hs hc bs ov' (out ++ makeL hs bs v ⟨IntKind.u8.wrap op, 0, b, d, wrap32 n0⟩) ∧ CS w w' g ov ov' := by
  rcases hh : homeOf hs v with ⟨sl, n⟩
  cases sl
  · refine (rmake_reg w g base A hs hc bs ov out v op b d n0 n hl hh hn).mono fun e w' h => ?_
    obtain ⟨rfl, ov', h1, h2⟩ := h
    exact ⟨rfl, ov', by simpa [makeL, hh] using h1, h2⟩
  · refine (rmake_slot w g base A hs hc bs ov out v op b d n0 n hl hh hn).mono fun e w' h => ?_
    obtain ⟨rfl, ov', h1, h2⟩ := h
    exact ⟨rfl, ov', by simpa [makeL, hh] using h1, h2⟩
end Go.Proofs.YthkiajbgdamjgaaDoor

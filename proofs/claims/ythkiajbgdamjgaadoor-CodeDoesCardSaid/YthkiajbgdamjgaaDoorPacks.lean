/- The law CodePacks: two numbers in one, taken out again, and lines. Conditions: two tables of the library as they are laid. -/
import Derived.Test.YthkiajbgdamjgaaDoorPack
import Derived.Test.YthkiajbgdamjgaaDoorWorks
import Derived.Deep.DeepCutAuto
namespace Go.Proofs.YthkiajbgdamjgaaDoor
open Go.RowKit
attribute [local irreducible] Blk

/-- Two numbers in one. -/
def packI (h s l : Int) : Int := wrap32 (wrap64 (wrap64 (h * s) + l))
theorem packI_bd (h s l : Int) : -2147483648 ≤ packI h s l ∧ packI h s l ≤ 2147483647 := by unfold packI wrap32; omega
theorem pack_i (w : World) (h s l : Int) : Calls Tryd.prog 15 #[.int .i64 h, .int .i64 s, .int .i64 l] w fun e w' => e = .returned (.int .i32 (packI h s l)) ∧ w = w' := pack_any w h s l
theorem rpack_i (w : World) (h s l : Int) : Calls Tryd.prog 16 #[.int .i64 h, .int .i64 s, .int .i64 l] w fun e w' => e = .returned (.int .i32 (packI h s l)) ∧ w = w' := rpack_any w h s l
theorem Blk.to {w w' : World} {g : Nat} {t : TypeId} {cs : Array Value} (h : Blk w g t cs) (hb : Below w.heap.size w w') : Blk w' g t cs := h.below hb h.lt

set_option maxRecDepth 100000 in
set_option maxHeartbeats 6400000 in
theorem codePacks_any (B : Nat) (w : World) (high low : Int) (x : C5) (hT : Tabs B w) (hB : B ≤ w.heap.size) (l0 : 0 ≤ low) (l1 : low ≤ 255) (v0 : -2147483648 ≤ high) (v1 : high ≤ 2147483647) (h0 : 0 ≤ x.op) (h1 : x.op ≤ 255) (a0 : 0 ≤ x.a) (a1 : x.a ≤ 255) (b0 : 0 ≤ x.b) (b1 : x.b ≤ 255) (c0 : 0 ≤ x.c) (c1 : x.c ≤ 255) (n0 : -2147483648 ≤ x.n) (n1 : x.n ≤ 2147483647) :
    Calls Tryd.prog 5 #[.int .i32 high, .int .u8 low, .agg #[.int .u8 x.op, .int .u8 x.a, .int .u8 x.b, .int .u8 x.c, .int .i32 x.n]] w fun e w' => e = .returned (.bool true) ∧ Below w.heap.size w w' := by
  obtain ⟨op, a, b, c, n⟩ := x
  simp only at *
  have i0 : ∀ W, (Instr.index 51 (.agg #[.int .i64 4, .int .i64 128, .int .i64 1, .int .i64 0, .int .i64 (-3)]) (.int .i64 0)).run Tryd.prog W = .ok (.int .i64 4) W := fun _ => by kernel_rfl
  have i1 : ∀ W, (Instr.index 51 (.agg #[.int .i64 4, .int .i64 128, .int .i64 1, .int .i64 0, .int .i64 (-3)]) (.int .i64 1)).run Tryd.prog W = .ok (.int .i64 128) W := fun _ => by kernel_rfl
  have i2 : ∀ W, (Instr.index 51 (.agg #[.int .i64 4, .int .i64 128, .int .i64 1, .int .i64 0, .int .i64 (-3)]) (.int .i64 2)).run Tryd.prog W = .ok (.int .i64 1) W := fun _ => by kernel_rfl
  have i3 : ∀ W, (Instr.index 51 (.agg #[.int .i64 4, .int .i64 128, .int .i64 1, .int .i64 0, .int .i64 (-3)]) (.int .i64 3)).run Tryd.prog W = .ok (.int .i64 0) W := fun _ => by kernel_rfl
  have i4 : ∀ W, (Instr.index 51 (.agg #[.int .i64 4, .int .i64 128, .int .i64 1, .int .i64 0, .int .i64 (-3)]) (.int .i64 4)).run Tryd.prog W = .ok (.int .i64 (-3)) W := fun _ => by kernel_rfl
  go_enter Tryd.func5, Tryd.ntmps5
  go_wp2_with fail
  go_loopw [15] (fun i wr => (i = .int .i64 0 ∨ i = .int .i64 1 ∨ i = .int .i64 2 ∨ i = .int .i64 3 ∨ i = .int .i64 4 ∨ i = .int .i64 5) ∧ Blk wr w.heap.size 49 #[.int .u8 op, .int .u8 a, .int .u8 b, .int .u8 c, .int .i32 n] ∧ Below w.heap.size w wr) (fun i _ => 5 - (intOf i).toNat)
  case atStart => exact ⟨.inl rfl, Blk.new _ _ _, (Below.refl _ _).alloc (Nat.le_refl _) _⟩
  case round =>
    obtain ⟨hi, hX, hbr⟩ := hrel
    rcases hi with rfl | rfl | rfl | rfl | rfl | rfl
    · go_wp2_with fail
      refine (pack_i _ high 4 low).mono ?_
      rintro e w1 ⟨rfl, rfl⟩
      go_wp2_with fail
      refine (rpack_i _ high 4 low).mono ?_
      rintro e w1 ⟨rfl, rfl⟩
      go_wp2_with fail
      refine (unpack_any _ _ 4 (packI_bd high 4 low).1 (packI_bd high 4 low).2 (by decide) (by decide)).mono ?_
      rintro e w1 ⟨rfl, k, rfl⟩
      go_wp2_with fail
      refine (runpack_any _ _ 4 (packI_bd high 4 low).1 (packI_bd high 4 low).2 (by decide) (by decide)).mono ?_
      rintro e w1 ⟨rfl, rfl⟩
      go_wp2_with fail
      go_roundw
      case rel => exact ⟨.inr (.inl rfl), hX.drewN _, hbr.trans ((below_drewN _ _).mono hbr.size)⟩
      case measure => simp [intOf]
    · go_wp2_with fail
      refine (pack_i _ high 128 low).mono ?_
      rintro e w1 ⟨rfl, rfl⟩
      go_wp2_with fail
      refine (rpack_i _ high 128 low).mono ?_
      rintro e w1 ⟨rfl, rfl⟩
      go_wp2_with fail
      refine (unpack_any _ _ 128 (packI_bd high 128 low).1 (packI_bd high 128 low).2 (by decide) (by decide)).mono ?_
      rintro e w1 ⟨rfl, k, rfl⟩
      go_wp2_with fail
      refine (runpack_any _ _ 128 (packI_bd high 128 low).1 (packI_bd high 128 low).2 (by decide) (by decide)).mono ?_
      rintro e w1 ⟨rfl, rfl⟩
      go_wp2_with fail
      go_roundw
      case rel => exact ⟨.inr (.inr (.inl rfl)), hX.drewN _, hbr.trans ((below_drewN _ _).mono hbr.size)⟩
      case measure => simp [intOf]
    · go_wp2_with fail
      refine (pack_i _ high 1 low).mono ?_
      rintro e w1 ⟨rfl, rfl⟩
      go_wp2_with fail
      refine (rpack_i _ high 1 low).mono ?_
      rintro e w1 ⟨rfl, rfl⟩
      go_wp2_with fail
      refine (unpack_any _ _ 1 (packI_bd high 1 low).1 (packI_bd high 1 low).2 (by decide) (by decide)).mono ?_
      rintro e w1 ⟨rfl, k, rfl⟩
      go_wp2_with fail
      refine (runpack_any _ _ 1 (packI_bd high 1 low).1 (packI_bd high 1 low).2 (by decide) (by decide)).mono ?_
      rintro e w1 ⟨rfl, rfl⟩
      go_wp2_with fail
      go_roundw
      case rel => exact ⟨.inr (.inr (.inr (.inl rfl))), hX.drewN _, hbr.trans ((below_drewN _ _).mono hbr.size)⟩
      case measure => simp [intOf]
    · go_wp2_with fail
      refine (pack_i _ high 0 low).mono ?_
      rintro e w1 ⟨rfl, rfl⟩
      go_wp2_with fail
      refine (rpack_i _ high 0 low).mono ?_
      rintro e w1 ⟨rfl, rfl⟩
      go_wp2_with fail
      refine (unpack_low _ _ 0 (by decide)).mono ?_
      rintro e w1 ⟨rfl, rfl⟩
      go_wp2_with fail
      refine (runpack_low _ _ 0 (by decide)).mono ?_
      rintro e w1 ⟨rfl, rfl⟩
      go_wp2_with fail
      go_roundw
      case rel => exact ⟨.inr (.inr (.inr (.inr (.inl rfl)))), hX, hbr⟩
      case measure => simp [intOf]
    · go_wp2_with fail
      refine (pack_i _ high (-3) low).mono ?_
      rintro e w1 ⟨rfl, rfl⟩
      go_wp2_with fail
      refine (rpack_i _ high (-3) low).mono ?_
      rintro e w1 ⟨rfl, rfl⟩
      go_wp2_with fail
      refine (unpack_low _ _ (-3) (by decide)).mono ?_
      rintro e w1 ⟨rfl, rfl⟩
      go_wp2_with fail
      refine (runpack_low _ _ (-3) (by decide)).mono ?_
      rintro e w1 ⟨rfl, rfl⟩
      go_wp2_with fail
      go_roundw
      case rel => exact ⟨.inr (.inr (.inr (.inr (.inr (rfl))))), hX, hbr⟩
      case measure => simp [intOf]
    · have x0 := hX.cell 0
      have xl := hX.lt
      have xf := hX.frozen 0
      simp at x0
      go_wp2_with fail
      have hY : Blk (wr.setCell ⟨w.heap.size, 0, none⟩ (.int .u8 (op % 30))) w.heap.size 49 #[.int .u8 (op % 30), .int .u8 a, .int .u8 b, .int .u8 c, .int .i32 n] := by simpa using hX.set 0 (.int .u8 (op % 30))
      have hby : Below w.heap.size w (wr.setCell ⟨w.heap.size, 0, none⟩ (.int .u8 (op % 30))) := hbr.setCell (Nat.le_refl _) _
      have q0 : 0 ≤ op % 30 := by omega
      have q1 : op % 30 ≤ 255 := by omega
      clear hX x0 xl xf hbr i0 i1 i2 i3 i4
      generalize wr.setCell ⟨w.heap.size, 0, none⟩ (.int .u8 (op % 30)) = wy at *
      generalize op % 30 = q at *
      have hTX := fun W (h : Below w.heap.size w W) => text_any B W ⟨q, a, b, c, n⟩ (hT.below (h.mono hB)) (Nat.le_trans hB h.size) q0 q1 a0 a1 b0 b1 c0 c1 n0 n1
      have hRX := fun W => rtext_any W ⟨q, a, b, c, n⟩ q0 q1 a0 a1 b0 b1 c0 c1 n0 n1
      have hWK := fun W (h : Below w.heap.size w W) => works_any B W (hT.below (h.mono hB)) (Nat.le_trans hB h.size)
      have TX := Lib.hid hTX
      have RX := Lib.hid hRX
      have WK := Lib.hid hWK
      clear hTX hRX hWK
      go_region_held3 (fun w' => w'.cell? ⟨w.heap.size, 0, none⟩ = some (.int .u8 q) ∧ w'.cell? ⟨w.heap.size, 1, none⟩ = some (.int .u8 a) ∧ w'.cell? ⟨w.heap.size, 2, none⟩ = some (.int .u8 b) ∧ w'.cell? ⟨w.heap.size, 3, none⟩ = some (.int .u8 c) ∧ w'.cell? ⟨w.heap.size, 4, none⟩ = some (.int .i32 n))
        (first
          | (refine ⟨cell_of_blk hY3 (by rfl), cell_of_blk hY3 (by rfl), cell_of_blk hY3 (by rfl), cell_of_blk hY3 (by rfl), cell_of_blk hY3 (by rfl)⟩)
          | (refine ⟨cell_of_blk hY2 (by rfl), cell_of_blk hY2 (by rfl), cell_of_blk hY2 (by rfl), cell_of_blk hY2 (by rfl), cell_of_blk hY2 (by rfl)⟩)
          | (refine ⟨cell_of_blk hY1 (by rfl), cell_of_blk hY1 (by rfl), cell_of_blk hY1 (by rfl), cell_of_blk hY1 (by rfl), cell_of_blk hY1 (by rfl)⟩)
          | (refine ⟨cell_of_blk (Blk.drew hY) (by rfl), cell_of_blk (Blk.drew hY) (by rfl), cell_of_blk (Blk.drew hY) (by rfl), cell_of_blk (Blk.drew hY) (by rfl), cell_of_blk (Blk.drew hY) (by rfl)⟩))
        (first
          | (go_at_call 19; refine (TX.out _ hby.drew).mono ?_; rintro e w1 ⟨rfl, hb1⟩; have hY1 := (Blk.drew hY).to hb1; have hc1 := bl_next hby.drew hb1 (Nat.le_refl _))
          | (go_at_call 20; refine (RX.out _).mono ?_; rintro e w2 ⟨rfl, hb2⟩; have hY2 := hY1.to hb2; have hc2 := bl_next hc1 hb2 (Nat.le_refl _))
          | (go_at_call 11; refine (WK.out _ hc2).mono ?_; rintro e w3 ⟨rfl, hb3⟩; have hY3 := hY2.to hb3; have hc3 := bl_next hc2 hb3 (Nat.le_refl _)))
      all_goals go_wp2_with fail
      all_goals go_ret
      all_goals exact ⟨rfl, hc3⟩
end Go.Proofs.YthkiajbgdamjgaaDoor

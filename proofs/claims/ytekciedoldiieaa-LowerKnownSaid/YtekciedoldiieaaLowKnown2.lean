/- LowerKnown: the law's own walk. -/
import Derived.Test.YtekciedoldiieaaLowKnownSt
namespace Go.Proofs.Ytekciedoldiieaa
open Go.RowKit
attribute [local irreducible] Blk

set_option maxRecDepth 100000 in
set_option maxHeartbeats 12800000 in
theorem known_any (w : World) : Calls Try.prog 3 #[] w fun e w' => e = .returned (.bool true) ∧ Below w.heap.size w w' := by
  go_enter Try.func3, Try.ntmps3
  go_upto_region 7 with (first | (go_at_call 4; refine (works_any _).mono ?_; rintro e w1 ⟨rfl, acc_w1⟩) | (go_at_call 5; refine (x_any _).mono ?_; rintro e wx ⟨rfl, rfl⟩))
  go_cut [1, 2, 3, 4, 5] (fun s1 s2 s3 s4 s5 wx => ∃ kE k1 kc kw kl ka kb : Nat, s1 = .slice (some ⟨kE, 0, none⟩) 1 1 ∧ s2 = .pointer (some ⟨k1, 0, none⟩) ∧ s3 = .pointer (some ⟨kc, 0, none⟩) ∧ s4 = .pointer (some ⟨kw, 0, none⟩) ∧ s5 = .pointer (some ⟨kl, 0, none⟩) ∧ Blk wx kE 25 #[.int .i64 26, .int .i64 0, .string ⟨#[]⟩, .string ⟨#[]⟩, .int .i64 0, .int .i64 2, .int .i64 0, .slice none 0 0] ∧ Blk wx k1 25 #[.int .i64 0, .int .i64 0, .string ⟨#[]⟩, .string ⟨#[]⟩, .int .i64 1, .int .i64 2, .int .i64 0, .slice none 0 0] ∧ Blk wx kc 25 #[.int .i64 28, .int .i64 0, .string ⟨#[]⟩, .string ⟨#[]⟩, .int .i64 4, .int .i64 1, .int .i64 7, .slice (some ⟨ka, 0, none⟩) 1 1] ∧ Blk wx kw 25 #[.int .i64 27, .int .i64 0, .string ⟨#[]⟩, .string ⟨#[]⟩, .int .i64 0, .int .i64 1, .int .i64 2, .slice none 0 0] ∧ Blk wx kl 25 #[.int .i64 16, .int .i64 0, .string ⟨#[]⟩, .string ⟨#[]⟩, .int .i64 0, .int .i64 1, .int .i64 0, .slice (some ⟨kb, 0, none⟩) 2 2] ∧ Blk wx ka 25 #[.int .i64 0, .int .i64 0, .string ⟨#[]⟩, .string ⟨#[]⟩, .int .i64 1, .int .i64 2, .int .i64 0, .slice none 0 0] ∧ Blk wx kb 25 #[.int .i64 26, .int .i64 0, .string ⟨#[]⟩, .string ⟨#[]⟩, .int .i64 0, .int .i64 2, .int .i64 0, .slice none 0 0, .int .i64 0, .int .i64 0, .string ⟨#[]⟩, .string ⟨#[]⟩, .int .i64 1, .int .i64 2, .int .i64 0, .slice none 0 0] ∧ Below w.heap.size w wx)
  case first =>
    have hk0 : w1.heap.size + 1 + 1 ≠ w1.heap.size := by omega
    go_region_held3 (fun w' => w'.cell? ⟨w1.heap.size + 1 + 1, 0, none⟩ = some (.int .i64 0) ∧ w'.cell? ⟨w1.heap.size + 1 + 1, 1, none⟩ = some (.int .i64 0) ∧ w'.cell? ⟨w1.heap.size + 1 + 1, 2, none⟩ = some (.string ⟨#[]⟩) ∧ w'.cell? ⟨w1.heap.size + 1 + 1, 3, none⟩ = some (.string ⟨#[]⟩) ∧ w'.cell? ⟨w1.heap.size + 1 + 1, 4, none⟩ = some (.int .i64 1) ∧ w'.cell? ⟨w1.heap.size + 1 + 1, 5, none⟩ = some (.int .i64 2) ∧ w'.cell? ⟨w1.heap.size + 1 + 1, 6, none⟩ = some (.int .i64 0) ∧ w'.cell? ⟨w1.heap.size + 1 + 1, 7, none⟩ = some (.slice none 0 0))
      (first
        | (go_keep; done)
        | (refine ⟨?_, ?_, ?_, ?_, ?_, ?_, ?_, ?_⟩ <;> exact cell_of_blk (t := 25) (cs := #[.int .i64 0, .int .i64 0, .string ⟨#[]⟩, .string ⟨#[]⟩, .int .i64 1, .int .i64 2, .int .i64 0, .slice none 0 0]) (by repeat (first | assumption | (refine Blk.newAt ?_; simp; done) | (refine Blk.newAt ?_; rfl) | apply Blk.alloc | apply Blk.drew)) rfl))
      (first
        | (go_at_call 5; refine (x_any _).mono ?_; rintro e w2 ⟨rfl, rfl⟩))
    all_goals
      go_wp2_with fail
      go_meet
      refine ⟨_, _, _, _, _, _, _, rfl, rfl, rfl, rfl, rfl, (by repeat (first | assumption | (refine Blk.newAt ?_; simp; done) | (refine Blk.newAt ?_; rfl) | apply Blk.alloc | apply Blk.drew)), (by repeat (first | assumption | (refine Blk.newAt ?_; simp; done) | (refine Blk.newAt ?_; rfl) | apply Blk.alloc | apply Blk.drew)), (by repeat (first | assumption | (refine Blk.newAt ?_; simp; done) | (refine Blk.newAt ?_; rfl) | apply Blk.alloc | apply Blk.drew)), (by repeat (first | assumption | (refine Blk.newAt ?_; simp; done) | (refine Blk.newAt ?_; rfl) | apply Blk.alloc | apply Blk.drew)), (by repeat (first | assumption | (refine Blk.newAt ?_; simp; done) | (refine Blk.newAt ?_; rfl) | apply Blk.alloc | apply Blk.drew)), (by repeat (first | assumption | (refine Blk.newAt ?_; simp; done) | (refine Blk.newAt ?_; rfl) | apply Blk.alloc | apply Blk.drew)), (by repeat (first | assumption | (refine Blk.newAt ?_; simp; done) | (refine Blk.newAt ?_; rfl) | apply Blk.alloc | apply Blk.drew)), ?_⟩
      repeat (first | assumption | apply bel_alloc | apply bel_drew)
  case rest =>
    obtain ⟨kE, k1, kc, kw, kl, ka, kb, rfl, rfl, rfl, rfl, rfl, fe_0, fo_0, fc_0, fw_0, fl_0, fa_0, fb_0, acc_0⟩ := hcut
    go_upto_region 8 with fail
    go_cut [6] (fun s wx => ∃ ks : Nat, s = .pointer (some ⟨ks, 0, none⟩) ∧ Env w wx kE k1 kc kw kl ka kb ks)
    case first =>
      go_wp2_with fail
      go_meet
      refine ⟨_, rfl, ⟨(by repeat (first | assumption | (refine Blk.newAt ?_; simp; done) | (refine Blk.newAt ?_; rfl) | apply Blk.alloc | apply Blk.drew)), (by repeat (first | assumption | (refine Blk.newAt ?_; simp; done) | (refine Blk.newAt ?_; rfl) | apply Blk.alloc | apply Blk.drew)), (by repeat (first | assumption | (refine Blk.newAt ?_; simp; done) | (refine Blk.newAt ?_; rfl) | apply Blk.alloc | apply Blk.drew)), (by repeat (first | assumption | (refine Blk.newAt ?_; simp; done) | (refine Blk.newAt ?_; rfl) | apply Blk.alloc | apply Blk.drew)), (by repeat (first | assumption | (refine Blk.newAt ?_; simp; done) | (refine Blk.newAt ?_; rfl) | apply Blk.alloc | apply Blk.drew)), (by repeat (first | assumption | (refine Blk.newAt ?_; simp; done) | (refine Blk.newAt ?_; rfl) | apply Blk.alloc | apply Blk.drew)), (by repeat (first | assumption | (refine Blk.newAt ?_; simp; done) | (refine Blk.newAt ?_; rfl) | apply Blk.alloc | apply Blk.drew)), (by repeat (first | assumption | (refine Blk.newAt ?_; simp; done) | (refine Blk.newAt ?_; rfl) | apply Blk.alloc | apply Blk.drew)), ?_⟩⟩
      repeat (first | assumption | apply bel_alloc | apply bel_drew)
    case rest =>
    obtain ⟨ks, rfl, henv⟩ := hcut
    go_upto_region 9 with fail
    go_cut [7] (fun s wx => s = .bool true ∧ Env w wx kE k1 kc kw kl ka kb ks)
    case first =>
      refine st9 w _ _ _ _ _ _ _ _ _ _ _ _ _ _ _ _ _ _ _ _ _ _ _ _ _ _ _ _ _ _ _ _ _ _ _ _ _ _ _ _ _ _ _ _ _ _ _ _ _ _ _ _ _ _ _ _ _ _ _ _ _ _ _ _ _ _ _ _ _ _ _ _ _ _ _ _ _ _ _ _ _ _ _ _ _ _ _ _ _ _ _ _ _ _ _ _ _ _ _ _ _ _ _ _ _ _ _ _ _ _ _ _ _ _ _ _ _ _ _ _ _ _ _ _ _ _ _ _ _ _ _ _ _ _ _ _ _ _ _ _ _ _ _ _ _ _ _ _ _ _ _ _ _ _ _ _ _ _ _ _ _ _ _ _ _ _ _ _ _ _ _ _ _ _ _ _ _ _ _ _ _ _ _ _ _ _ _ _ _ _ _ _ henv ?_
      intros
      go_step
      first
        | (go_meet; exact ⟨rfl, by assumption⟩)
        | (dsimp only; go_meet; exact ⟨rfl, by assumption⟩)
    case rest =>
    obtain ⟨rfl, henv⟩ := hcut
    go_upto_region 10 with fail
    go_cut [8] (fun s wx => s = .bool true ∧ Env w wx kE k1 kc kw kl ka kb ks)
    case first =>
      refine st10 w _ _ _ _ _ _ _ _ _ _ _ _ _ _ _ _ _ _ _ _ _ _ _ _ _ _ _ _ _ _ _ _ _ _ _ _ _ _ _ _ _ _ _ _ _ _ _ _ _ _ _ _ _ _ _ _ _ _ _ _ _ _ _ _ _ _ _ _ _ _ _ _ _ _ _ _ _ _ _ _ _ _ _ _ _ _ _ _ _ _ _ _ _ _ _ _ _ _ _ _ _ _ _ _ _ _ _ _ _ _ _ _ _ _ _ _ _ _ _ _ _ _ _ _ _ _ _ _ _ _ _ _ _ _ _ _ _ _ _ _ _ _ _ _ _ _ _ _ _ _ _ _ _ _ _ _ _ _ _ _ _ _ _ _ _ _ _ _ _ _ _ _ _ _ _ _ _ _ _ _ _ _ _ _ _ _ _ _ _ _ _ _ henv ?_
      intros
      go_step
      first
        | (go_meet; exact ⟨rfl, by assumption⟩)
        | (dsimp only; go_meet; exact ⟨rfl, by assumption⟩)
    case rest =>
    obtain ⟨rfl, henv⟩ := hcut
    go_upto_region 11 with fail
    go_cut [9] (fun s wx => s = .bool true ∧ Env w wx kE k1 kc kw kl ka kb ks)
    case first =>
      refine st11 w _ _ _ _ _ _ _ _ _ _ _ _ _ _ _ _ _ _ _ _ _ _ _ _ _ _ _ _ _ _ _ _ _ _ _ _ _ _ _ _ _ _ _ _ _ _ _ _ _ _ _ _ _ _ _ _ _ _ _ _ _ _ _ _ _ _ _ _ _ _ _ _ _ _ _ _ _ _ _ _ _ _ _ _ _ _ _ _ _ _ _ _ _ _ _ _ _ _ _ _ _ _ _ _ _ _ _ _ _ _ _ _ _ _ _ _ _ _ _ _ _ _ _ _ _ _ _ _ _ _ _ _ _ _ _ _ _ _ _ _ _ _ _ _ _ _ _ _ _ _ _ _ _ _ _ _ _ _ _ _ _ _ _ _ _ _ _ _ _ _ _ _ _ _ _ _ _ _ _ _ _ _ _ _ _ _ _ _ _ _ _ _ henv ?_
      intros
      go_step
      first
        | (go_meet; exact ⟨rfl, by assumption⟩)
        | (dsimp only; go_meet; exact ⟨rfl, by assumption⟩)
    case rest =>
    obtain ⟨rfl, henv⟩ := hcut
    go_upto_region 12 with fail
    go_cut [10] (fun s wx => s = .bool true ∧ Env w wx kE k1 kc kw kl ka kb ks)
    case first =>
      refine st12 w _ _ _ _ _ _ _ _ _ _ _ _ _ _ _ _ _ _ _ _ _ _ _ _ _ _ _ _ _ _ _ _ _ _ _ _ _ _ _ _ _ _ _ _ _ _ _ _ _ _ _ _ _ _ _ _ _ _ _ _ _ _ _ _ _ _ _ _ _ _ _ _ _ _ _ _ _ _ _ _ _ _ _ _ _ _ _ _ _ _ _ _ _ _ _ _ _ _ _ _ _ _ _ _ _ _ _ _ _ _ _ _ _ _ _ _ _ _ _ _ _ _ _ _ _ _ _ _ _ _ _ _ _ _ _ _ _ _ _ _ _ _ _ _ _ _ _ _ _ _ _ _ _ _ _ _ _ _ _ _ _ _ _ _ _ _ _ _ _ _ _ _ _ _ _ _ _ _ _ _ _ _ _ _ _ _ _ _ _ _ _ _ henv ?_
      intros
      go_step
      first
        | (go_meet; exact ⟨rfl, by assumption⟩)
        | (dsimp only; go_meet; exact ⟨rfl, by assumption⟩)
    case rest =>
    obtain ⟨rfl, henv⟩ := hcut
    go_upto_region 13 with fail
    go_cut [11] (fun s wx => s = .bool true ∧ Env w wx kE k1 kc kw kl ka kb ks)
    case first =>
      refine st13 w _ _ _ _ _ _ _ _ _ _ _ _ _ _ _ _ _ _ _ _ _ _ _ _ _ _ _ _ _ _ _ _ _ _ _ _ _ _ _ _ _ _ _ _ _ _ _ _ _ _ _ _ _ _ _ _ _ _ _ _ _ _ _ _ _ _ _ _ _ _ _ _ _ _ _ _ _ _ _ _ _ _ _ _ _ _ _ _ _ _ _ _ _ _ _ _ _ _ _ _ _ _ _ _ _ _ _ _ _ _ _ _ _ _ _ _ _ _ _ _ _ _ _ _ _ _ _ _ _ _ _ _ _ _ _ _ _ _ _ _ _ _ _ _ _ _ _ _ _ _ _ _ _ _ _ _ _ _ _ _ _ _ _ _ _ _ _ _ _ _ _ _ _ _ _ _ _ _ _ _ _ _ _ _ _ _ _ _ _ _ _ _ henv ?_
      intros
      go_step
      first
        | (go_meet; exact ⟨rfl, by assumption⟩)
        | (dsimp only; go_meet; exact ⟨rfl, by assumption⟩)
    case rest =>
    obtain ⟨rfl, henv⟩ := hcut
    go_upto_region 14 with fail
    go_cut [12] (fun s wx => s = .bool true ∧ Env w wx kE k1 kc kw kl ka kb ks)
    case first =>
      refine st14 w _ _ _ _ _ _ _ _ _ _ _ _ _ _ _ _ _ _ _ _ _ _ _ _ _ _ _ _ _ _ _ _ _ _ _ _ _ _ _ _ _ _ _ _ _ _ _ _ _ _ _ _ _ _ _ _ _ _ _ _ _ _ _ _ _ _ _ _ _ _ _ _ _ _ _ _ _ _ _ _ _ _ _ _ _ _ _ _ _ _ _ _ _ _ _ _ _ _ _ _ _ _ _ _ _ _ _ _ _ _ _ _ _ _ _ _ _ _ _ _ _ _ _ _ _ _ _ _ _ _ _ _ _ _ _ _ _ _ _ _ _ _ _ _ _ _ _ _ _ _ _ _ _ _ _ _ _ _ _ _ _ _ _ _ _ _ _ _ _ _ _ _ _ _ _ _ _ _ _ _ _ _ _ _ _ _ _ _ _ _ _ _ henv ?_
      intros
      go_step
      first
        | (go_meet; exact ⟨rfl, by assumption⟩)
        | (dsimp only; go_meet; exact ⟨rfl, by assumption⟩)
    case rest =>
    obtain ⟨rfl, henv⟩ := hcut
    go_upto_region 15 with fail
    go_cut [13] (fun s wx => s = .bool true ∧ Env w wx kE k1 kc kw kl ka kb ks)
    case first =>
      refine st15 w _ _ _ _ _ _ _ _ _ _ _ _ _ _ _ _ _ _ _ _ _ _ _ _ _ _ _ _ _ _ _ _ _ _ _ _ _ _ _ _ _ _ _ _ _ _ _ _ _ _ _ _ _ _ _ _ _ _ _ _ _ _ _ _ _ _ _ _ _ _ _ _ _ _ _ _ _ _ _ _ _ _ _ _ _ _ _ _ _ _ _ _ _ _ _ _ _ _ _ _ _ _ _ _ _ _ _ _ _ _ _ _ _ _ _ _ _ _ _ _ _ _ _ _ _ _ _ _ _ _ _ _ _ _ _ _ _ _ _ _ _ _ _ _ _ _ _ _ _ _ _ _ _ _ _ _ _ _ _ _ _ _ _ _ _ _ _ _ _ _ _ _ _ _ _ _ _ _ _ _ _ _ _ _ _ _ _ _ _ _ _ _ henv ?_
      intros
      go_step
      first
        | (go_meet; exact ⟨rfl, by assumption⟩)
        | (dsimp only; go_meet; exact ⟨rfl, by assumption⟩)
    case rest =>
    obtain ⟨rfl, henv⟩ := hcut
    have acc_z := henv.acc
    have hu0 := fun W => unit_any W ⟨#[]⟩ 0 0 0 0 none 0 0 none 0 [] (fun h => absurd rfl h) (by simp) (by simp) (by simp [mosts])
    have HU := Lib.hid hu0
    clear hu0
    go_wp2_with fail
    refine (HU.out _).mono ?_
    rintro e w9 ⟨av, rfl, hown, hb9⟩
    have acc_9 := bel_step (w := w) (by repeat (first | assumption | apply bel_alloc | apply bel_drew)) hb9
    rcases hown.2 with ⟨rfl, _⟩ | ⟨gg, cap, _, rfl, _⟩
    all_goals
      simp only [unitL, List.length_nil]
      go_wp2_with fail
      go_ret
      exact ⟨rfl, acc_9⟩
end Go.Proofs.Ytekciedoldiieaa

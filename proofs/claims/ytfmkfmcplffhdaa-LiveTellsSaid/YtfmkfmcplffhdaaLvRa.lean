/- ploverref19.Reads, Makes, Begins, reads: what the document says of an instruction is what live.Uses says. Conditions: sizes. -/
import Derived.Test.YtfmkfmcplffhdaaLvD
namespace Go.Proofs.Ytfmkfmcplffhdaa
set_option linter.unusedVariables false
open Go.RowKit
attribute [local irreducible] Blk
def RdP (w : World) (l : List Int) (e : Ending) (w' : World) : Prop := ∃ v, e = .returned v ∧ w'.ownsRow w.heap.size 3 1 v l.length (iCells l) ∧ Below w.heap.size w w'
theorem kind_noread {op : Int} (h : ¬ (op = 2 ∨ op = 4 ∨ op = 7 ∨ op = 6 ∨ op = 10 ∨ op = 11 ∨ op = 14 ∨ op = 16)) (h2 : ¬ (op = 3 ∨ op = 8)) : ∀ a b, (match kindU op with | some (k, _) => keep0 (rawU k a b) | none => []) = [] := by
  intro a b
  unfold kindU
  by_cases h1 : op = 1 ∨ op = 5 ∨ op = 9 ∨ op = 13
  · rw [if_pos h1]
    rfl
  · rw [if_neg h1, if_neg (by omega), if_neg (by omega), if_neg (by omega), if_neg (by omega)]
theorem kind_nomake {op : Int} (h : ¬ (op = 1 ∨ op = 5 ∨ op = 9 ∨ op = 13 ∨ op = 2 ∨ op = 4 ∨ op = 7 ∨ op = 3)) : ∀ d : Int, (match kindU op with | some (_, true) => max (-1) d | _ => -1) = -1 := by
  intro d
  unfold kindU
  rw [if_neg (by omega), if_neg (by omega), if_neg (by omega)]
  by_cases h1 : op = 6 ∨ op = 10 ∨ op = 11 ∨ op = 14 ∨ op = 16
  · rw [if_pos h1]
  · rw [if_neg h1]
    by_cases h2 : op = 8
    · rw [if_pos h2]
    · rw [if_neg h2]
theorem row_none {w w' : World} {r : Option Nat} (h : w.grownBy w' r) (e : r = none) : w.grownBy w' none := e ▸ h
theorem reads_one {i : I9} (h : i.op = 2 ∨ i.op = 4 ∨ i.op = 7 ∨ i.op = 6 ∨ i.op = 10 ∨ i.op = 11 ∨ i.op = 14 ∨ i.op = 16) : readsL i = keep0 [i.a] := by
  unfold readsL
  rcases h with h | h | h | h | h | h | h | h <;> rw [h] <;> rfl
theorem reads_two {i : I9} (h : i.op = 3 ∨ i.op = 8) : readsL i = keep0 [i.a, i.b] := by
  unfold readsL
  rcases h with h | h <;> rw [h] <;> rfl
set_option maxRecDepth 100000 in
set_option maxHeartbeats 3200000 in
theorem Reads_any (w : World) (i : I9) : Calls Try.prog 11 #[.agg i.arr] w (RdP w (readsL i)) := by
  obtain ⟨i0, hi0, hz0, hz1, hz2⟩ := info_parts infoInt
  have HII := Lib.hid (⟨hi0, hz0, hz1, hz2⟩ : _ ∧ _ ∧ _ ∧ _)
  clear hi0 hz0 hz1 hz2
  have hB := (Below.refl w.heap.size w).alloc (Nat.le_refl _) (.cells i.arr 33)
  have HB := Lib.hid hB
  clear hB
  obtain ⟨op, op2, ty, d, a, b, n, count, step⟩ := i
  unfold I9.arr at *
  simp only at *
  by_cases hone : op = 2 ∨ op = 4 ∨ op = 7 ∨ op = 6 ∨ op = 10 ∨ op = 11 ∨ op = 14 ∨ op = 16
  · rw [reads_one hone]
    by_cases ha : 0 ≤ a
    · rw [show keep0 [a] = [a] by simp [keep0, ha]]
      rcases hone with rfl | rfl | rfl | rfl | rfl | rfl | rfl | rfl
      all_goals
        go_enter Try.func11, Try.ntmps11
        go_wp2_with (at_builtin; refine wpList_append_lies _ rfl (.tmp 26) (.tmp 29) _ rfl w.heap.size 3 i0 _ 1 8 Try.underlying29 HII.out.1 HII.out.2.1 HII.out.2.2.1 HII.out.2.2.2 rfl (by omega) _ 0 [] rfl (World.ownsRow_nil _ _ _ _) ⟨w.heap.size + 1, 0, none⟩ 1 1 [.int .i64 a] rfl rfl (World.news_of_block (cs := #[.int .i64 a]) (t := 3) (fr := (0, 0)) (Blk.heap (Blk.newAt (by simp)))) (by simp [Value.oneCell']) (by omega) (by unfold maxLen; omega) (by omega) (by simp; omega) (w.heap.size + 1 + 1) (by simp) ?_; intro gg cap w3 hown3 hgrow hat hlt3; clear hat hlt3)
        go_ret
        exact ⟨_, rfl, hown3, (HB.out.alloc HB.out.size _).grown hgrow (by simp; omega) (fun j hj => by cases hj)⟩
    · rw [show keep0 [a] = [] by simp [keep0, ha]]
      have ha2 : a < 0 := by omega
      rcases hone with rfl | rfl | rfl | rfl | rfl | rfl | rfl | rfl
      all_goals
        go_enter Try.func11, Try.ntmps11
        go_wp2_with fail
        go_ret
        exact ⟨_, rfl, World.ownsRow_nil _ _ _ _, HB.out⟩
  · by_cases htwo : op = 3 ∨ op = 8
    · rw [reads_two htwo]
      by_cases ha : 0 ≤ a
      · by_cases hb : 0 ≤ b
        · rw [show keep0 [a, b] = [a, b] by simp [keep0, ha, hb]]
          rcases htwo with rfl | rfl
          all_goals
            clear hone
            go_enter Try.func11, Try.ntmps11
            go_wp2_with (first
              | (at_builtin; refine wpList_append_lies _ rfl (.tmp 26) (.tmp 29) _ rfl w.heap.size 3 i0 _ 1 8 Try.underlying29 HII.out.1 HII.out.2.1 HII.out.2.2.1 HII.out.2.2.2 rfl (by omega) _ 0 [] rfl (World.ownsRow_nil _ _ _ _) ⟨w.heap.size + 1, 0, none⟩ 1 1 [.int .i64 a] rfl rfl (World.news_of_block (cs := #[.int .i64 a]) (t := 3) (fr := (0, 0)) (Blk.heap (Blk.newAt (by simp)))) (by simp [Value.oneCell']) (by omega) (by unfold maxLen; omega) (by omega) (by simp; omega) (w.heap.size + 1 + 1) (by simp) ?_; intro gg cap w3 hown3 hgrow hat hlt3; have HB3 := Lib.hid ((HB.out.alloc HB.out.size _).grown hgrow (by simp; omega) (fun j hj => by cases hj)); have hgn := row_none hgrow rfl; have hc5 := (((Blk.new w 33 _).alloc (.cells #[.int .i64 a] 3)).grown hgn (by simp)).cell 5; clear hgn; simp at hc5; have HO3 := Lib.hid hown3; have hs3 := hgrow.size; simp at hs3; clear hat hgrow hown3)
              | (at_builtin; refine wpList_append_lies _ rfl (.tmp 37) (.tmp 40) _ rfl w.heap.size 3 i0 _ 1 8 Try.underlying29 HII.out.1 HII.out.2.1 HII.out.2.2.1 HII.out.2.2.2 rfl (by omega) _ 1 _ rfl (HO3.out.alloc _) ⟨w3.heap.size, 0, none⟩ 1 1 [.int .i64 b] rfl rfl (World.news_of_block (cs := #[.int .i64 b]) (t := 3) (fr := (0, 0)) (heap_alloc_new w3 _)) (by simp [Value.oneCell']) (by omega) (by unfold maxLen; omega) (by omega) (by simp; omega) (w3.heap.size + 1) (by simp) ?_; intro g2 cap2 w4 hown4 hgrow4 hat4 hlt4; clear hat4 hlt4))
            go_ret
            exact ⟨_, rfl, hown4, (HB3.out.alloc HB3.out.size _).grown hgrow4 (by simp; omega) (fun j hj => (HO3.out.lt j hj).1)⟩
        · rw [show keep0 [a, b] = [a] by simp [keep0, ha, hb]]
          have hb2 : b < 0 := by omega
          rcases htwo with rfl | rfl
          all_goals
            clear hone
            go_enter Try.func11, Try.ntmps11
            go_wp2_with (first
              | (at_builtin; refine wpList_append_lies _ rfl (.tmp 26) (.tmp 29) _ rfl w.heap.size 3 i0 _ 1 8 Try.underlying29 HII.out.1 HII.out.2.1 HII.out.2.2.1 HII.out.2.2.2 rfl (by omega) _ 0 [] rfl (World.ownsRow_nil _ _ _ _) ⟨w.heap.size + 1, 0, none⟩ 1 1 [.int .i64 a] rfl rfl (World.news_of_block (cs := #[.int .i64 a]) (t := 3) (fr := (0, 0)) (Blk.heap (Blk.newAt (by simp)))) (by simp [Value.oneCell']) (by omega) (by unfold maxLen; omega) (by omega) (by simp; omega) (w.heap.size + 1 + 1) (by simp) ?_; intro gg cap w3 hown3 hgrow hat hlt3; have HB3 := Lib.hid ((HB.out.alloc HB.out.size _).grown hgrow (by simp; omega) (fun j hj => by cases hj)); have hgn := row_none hgrow rfl; have hc5 := (((Blk.new w 33 _).alloc (.cells #[.int .i64 a] 3)).grown hgn (by simp)).cell 5; clear hgn; simp at hc5; have HO3 := Lib.hid hown3; have hs3 := hgrow.size; simp at hs3; clear hat hgrow hown3))
            go_ret
            exact ⟨_, rfl, HO3.out, HB3.out⟩
      · have ha2 : a < 0 := by omega
        by_cases hb : 0 ≤ b
        · rw [show keep0 [a, b] = [b] by simp [keep0, ha, hb]]
          rcases htwo with rfl | rfl
          all_goals
            clear hone
            go_enter Try.func11, Try.ntmps11
            go_wp2_with (at_builtin; refine wpList_append_lies _ rfl (.tmp 37) (.tmp 40) _ rfl w.heap.size 3 i0 _ 1 8 Try.underlying29 HII.out.1 HII.out.2.1 HII.out.2.2.1 HII.out.2.2.2 rfl (by omega) _ 0 [] rfl (World.ownsRow_nil _ _ _ _) ⟨w.heap.size + 1, 0, none⟩ 1 1 [.int .i64 b] rfl rfl (World.news_of_block (cs := #[.int .i64 b]) (t := 3) (fr := (0, 0)) (Blk.heap (Blk.newAt (by simp)))) (by simp [Value.oneCell']) (by omega) (by unfold maxLen; omega) (by omega) (by simp; omega) (w.heap.size + 1 + 1) (by simp) ?_; intro gg cap w3 hown3 hgrow hat hlt3; clear hat hlt3)
            go_ret
            exact ⟨_, rfl, hown3, (HB.out.alloc HB.out.size _).grown hgrow (by simp; omega) (fun j hj => by cases hj)⟩
        · rw [show keep0 [a, b] = [] by simp [keep0, ha, hb]]
          have hb2 : b < 0 := by omega
          rcases htwo with rfl | rfl
          all_goals
            clear hone
            go_enter Try.func11, Try.ntmps11
            go_wp2_with fail
            go_ret
            exact ⟨_, rfl, World.ownsRow_nil _ _ _ _, HB.out⟩
    · rw [show readsL ⟨op, op2, ty, d, a, b, n, count, step⟩ = [] from kind_noread hone htwo a b]
      simp only [not_or] at hone htwo
      obtain ⟨n1, n2, n3, n4, n5, n6, n7, n8⟩ := hone
      obtain ⟨n9, n10⟩ := htwo
      go_enter Try.func11, Try.ntmps11
      go_wp2_with fail
      go_ret
      exact ⟨_, rfl, World.ownsRow_nil _ _ _ _, HB.out⟩
set_option maxRecDepth 100000 in
set_option maxHeartbeats 3200000 in
theorem Makes_any (w : World) (i : I9) : Calls Try.prog 12 #[.agg i.arr] w fun e w' => e = .returned (.int .i64 (makesL i)) ∧ w' = w.alloc (.cells i.arr 33) := by
  obtain ⟨op, op2, ty, d, a, b, n, count, step⟩ := i
  unfold I9.arr at *
  simp only at *
  by_cases hone : op = 1 ∨ op = 5 ∨ op = 9 ∨ op = 13 ∨ op = 2 ∨ op = 4 ∨ op = 7 ∨ op = 3
  · have hM : makesL ⟨op, op2, ty, d, a, b, n, count, step⟩ = max (-1) d := by
      unfold makesL
      rcases hone with rfl | rfl | rfl | rfl | rfl | rfl | rfl | rfl <;> rfl
    rw [hM]
    obtain ⟨m, hm⟩ : ∃ m, (if -1 < d then d else -1) = m := ⟨_, rfl⟩
    have hmax := fun ats ty => max_m1 ats ty d hm
    have HM := Lib.hid (show max (-1) d = m by rw [← max_eq, hm])
    clear hM hm
    rcases hone with rfl | rfl | rfl | rfl | rfl | rfl | rfl | rfl
    all_goals
      go_enter Try.func12, Try.ntmps12
      go_wp2_with fail
      go_ret
      rw [HM.out]
      exact ⟨rfl, rfl⟩
  · have hM : makesL ⟨op, op2, ty, d, a, b, n, count, step⟩ = -1 := kind_nomake hone d
    rw [hM]
    simp only [not_or] at hone
    obtain ⟨n1, n2, n3, n4, n5, n6, n7, n8⟩ := hone
    go_enter Try.func12, Try.ntmps12
    go_wp2_with fail
    go_ret
    exact ⟨rfl, rfl⟩
theorem Makes_below (w : World) (i : I9) : Calls Try.prog 12 #[.agg i.arr] w fun e w' => e = .returned (.int .i64 (makesL i)) ∧ Below w.heap.size w w' :=
  (Makes_any w i).mono fun _ _ ⟨h1, h2⟩ => ⟨h1, h2 ▸ (Below.refl _ w).alloc (Nat.le_refl _) _⟩
end Go.Proofs.Ytfmkfmcplffhdaa

/- Spans that have registers: the methods of their row; comparing. No condition. -/
import Derived.Test.YtfgdkeomjplnnaaDoorLvQt
import Derived.Test.YtfgdkeomjplnnaaDoorProg
import Derived.BigRegion
import Derived.Sort.WalkB12
namespace Go.Proofs.YtfgdkeomjplnnaaDoor
set_option linter.unusedVariables false
open Go.RowKit
attribute [local irreducible] Blk
theorem run_method_val {P : Program} {t elem : TypeId} {name : String} {f : FuncId} (n : Nat) {a : Addr} {v : Value} {w : World}
    (hm : ((P.info? t).bind (fun i => i.methods.find? (·.name == name))).map (fun m => (m.path, m.func)) = some (#[], some (f, false))) (hu : P.underlying t = some (.pointer elem)) (hl : (loadVar elem a).run P w = .ok v w) :
    (method (n + 1) t (.pointer (some a)) name).run P w = .ok (f, v) w := by
  cases hi : P.info? t with
  | none => rw [hi] at hm; cases hm
  | some i =>
    rw [hi] at hm
    simp only [Option.bind_some] at hm
    cases hf : i.methods.find? (·.name == name) with
    | none => rw [hf] at hm; cases hm
    | some m =>
      rw [hf] at hm
      simp only [Option.map_some, Option.some.injEq, Prod.mk.injEq] at hm
      obtain ⟨h1, h2⟩ := hm
      have hs : ∀ ats ty s1 s2, Builtin.ssaWrapNilChk_ ats ty #[.pointer (some a), strVal s1, strVal s2] = pure (.pointer (some a)) := fun _ _ _ _ => rfl
      unfold method
      simp [typeInfo, hi, hf, h1, h2, follow, receiverAt, run_underlying hu, Place.get, hs, asAddr, hl, Sem.run_bind, Sem.run_pure, Result.andThen_ok]
theorem run_method_ptr {P : Program} {t elem : TypeId} {name : String} {f : FuncId} (n : Nat) {a : Addr} {w : World}
    (hm : ((P.info? t).bind (fun i => i.methods.find? (·.name == name))).map (fun m => (m.path, m.func)) = some (#[], some (f, true))) (hu : P.underlying t = some (.pointer elem)) :
    (method (n + 1) t (.pointer (some a)) name).run P w = .ok (f, .pointer (some a)) w := by
  cases hi : P.info? t with
  | none => rw [hi] at hm; cases hm
  | some i =>
    rw [hi] at hm
    simp only [Option.bind_some] at hm
    cases hf : i.methods.find? (·.name == name) with
    | none => rw [hf] at hm; cases hm
    | some m =>
      rw [hf] at hm
      simp only [Option.map_some, Option.some.injEq, Prod.mk.injEq] at hm
      obtain ⟨h1, h2⟩ := hm
      unfold method
      simp [typeInfo, hi, hf, h1, h2, follow, receiverAt, run_underlying hu, Place.get, go_sem]
theorem mLen : ((Tryd.prog.info? 75).bind (fun i => i.methods.find? (·.name == "Len"))).map (fun m => (m.path, m.func)) = some (#[], some (102, false)) := by kernel_rfl
theorem mLess : ((Tryd.prog.info? 75).bind (fun i => i.methods.find? (·.name == "Less"))).map (fun m => (m.path, m.func)) = some (#[], some (40, false)) := by kernel_rfl
theorem mSwap : ((Tryd.prog.info? 75).bind (fun i => i.methods.find? (·.name == "Swap"))).map (fun m => (m.path, m.func)) = some (#[], some (105, false)) := by kernel_rfl
theorem mPush : ((Tryd.prog.info? 75).bind (fun i => i.methods.find? (·.name == "Push"))).map (fun m => (m.path, m.func)) = some (#[], some (104, true)) := by kernel_rfl
theorem mPop : ((Tryd.prog.info? 75).bind (fun i => i.methods.find? (·.name == "Pop"))).map (fun m => (m.path, m.func)) = some (#[], some (103, true)) := by kernel_rfl
set_option maxRecDepth 100000 in
theorem load_ends {w : World} {b : Nat} {o : Nat} {ev : Value} (h : w.cell? ⟨b, o, none⟩ = some ev) : (loadVar 51 ⟨b, o, none⟩).run Tryd.prog w = .ok ev w := by
  simp [go_sem, h]
theorem len_m {w : World} {b o : Nat} {ev : Value} (h : w.cell? ⟨b, o, none⟩ = some ev) (n : Nat) : (method (n + 1) 75 (.pointer (some ⟨b, o, none⟩)) "Len").run Tryd.prog w = .ok (102, ev) w := run_method_val n mLen Tryd.underlying75 (load_ends h)
theorem less_m {w : World} {b o : Nat} {ev : Value} (h : w.cell? ⟨b, o, none⟩ = some ev) (n : Nat) : (method (n + 1) 75 (.pointer (some ⟨b, o, none⟩)) "Less").run Tryd.prog w = .ok (40, ev) w := run_method_val n mLess Tryd.underlying75 (load_ends h)
theorem swap_m {w : World} {b o : Nat} {ev : Value} (h : w.cell? ⟨b, o, none⟩ = some ev) (n : Nat) : (method (n + 1) 75 (.pointer (some ⟨b, o, none⟩)) "Swap").run Tryd.prog w = .ok (105, ev) w := run_method_val n mSwap Tryd.underlying75 (load_ends h)
theorem push_m {w : World} {a : Addr} (n : Nat) : (method (n + 1) 75 (.pointer (some a)) "Push").run Tryd.prog w = .ok (104, .pointer (some a)) w := run_method_ptr n mPush Tryd.underlying75
theorem pop_m {w : World} {a : Addr} (n : Nat) : (method (n + 1) 75 (.pointer (some a)) "Pop").run Tryd.prog w = .ok (103, .pointer (some a)) w := run_method_ptr n mPop Tryd.underlying75
theorem below_drewN {B : Nat} {w w' : World} (h : Below B w w') (n : Nat) : Below B w (w'.drewN n) := ⟨h.os, h.tape, h.output, h.size, h.block⟩
/-! Numbers. -/
def orI (a b : Int) : Int := if a = 0 then b else a
def cmpI (a b : Int) : Int := if a < b then -1 else if b < a then 1 else 0
set_option maxRecDepth 100000 in
theorem isNaN_any (w : World) (a : Int) : Calls Tryd.prog 36 #[.int .i64 a] w fun e w' => e = .returned (.bool false) ∧ w = w' := by
  have h1 : (a != a) = false := by simp
  go_enter Tryd.func36, Tryd.ntmps36
  go_wp2_with fail
  go_ret
  exact ⟨rfl, rfl⟩
set_option maxRecDepth 100000 in
theorem Compare_any (w : World) (a b : Int) : Calls Tryd.prog 22 #[.int .i64 a, .int .i64 b] w fun e w' => e = .returned (.int .i64 (cmpI a b)) ∧ w = w' := by
  unfold cmpI
  by_cases h : a < b
  · rw [if_pos h]
    go_enter Tryd.func22, Tryd.ntmps22
    go_wp2_with (go_at_call 36; refine (isNaN_any _ _).mono ?_; rintro e w' ⟨rfl, rfl⟩)
    go_ret
    exact ⟨rfl, rfl⟩
  · rw [if_neg h]
    by_cases h2 : b < a
    · rw [if_pos h2]
      go_enter Tryd.func22, Tryd.ntmps22
      go_wp2_with (go_at_call 36; refine (isNaN_any _ _).mono ?_; rintro e w' ⟨rfl, rfl⟩)
      go_ret
      exact ⟨rfl, rfl⟩
    · rw [if_neg h2]
      go_enter Tryd.func22, Tryd.ntmps22
      go_wp2_with (go_at_call 36; refine (isNaN_any _ _).mono ?_; rintro e w' ⟨rfl, rfl⟩)
      go_ret
      exact ⟨rfl, rfl⟩
theorem Compare_still (w : World) (a b : Int) : Calls Tryd.prog 22 #[.int .i64 a, .int .i64 b] w fun e w' => e = .returned (.int .i64 (cmpI a b)) ∧ w' = w := (Compare_any w a b).mono fun _ _ ⟨h1, h2⟩ => ⟨h1, h2.symm⟩
set_option maxRecDepth 100000 in
theorem Or_any (w : World) (g : Nat) (a b : Int) (h0 : w.cell? ⟨g, 0, none⟩ = some (.int .i64 a)) (h1 : w.cell? ⟨g, 1, none⟩ = some (.int .i64 b)) :
    Calls Tryd.prog 32 #[.slice (some ⟨g, 0, none⟩) 2 2] w fun e w' => e = .returned (.int .i64 (orI a b)) ∧ w = w' := by
  unfold orI
  by_cases ha : a = 0
  · rw [if_pos ha]
    subst ha
    by_cases hb : b = 0
    · subst hb
      have n0 : ((0 : Int) != 0) = false := rfl
      go_enter Tryd.func32, Tryd.ntmps32
      go_wp2_with fail
      refine wp_loop_rounds 3 ?_
      rw [rounds_succ]
      go_wp2_with fail
      rw [rounds_succ]
      go_wp2_with fail
      rw [rounds_succ]
      go_wp2_with fail
      go_ret
      exact ⟨rfl, rfl⟩
    · have n0 : ((0 : Int) != 0) = false := rfl
      have n1 : (b != 0) = true := by simpa using hb
      clear hb
      go_enter Tryd.func32, Tryd.ntmps32
      go_wp2_with fail
      refine wp_loop_rounds 2 ?_
      rw [rounds_succ]
      go_wp2_with fail
      rw [rounds_succ]
      go_wp2_with fail
      go_ret
      exact ⟨rfl, rfl⟩
  · rw [if_neg ha]
    have n1 : (a != 0) = true := by simpa using ha
    clear ha
    go_enter Tryd.func32, Tryd.ntmps32
    go_wp2_with fail
    refine wp_loop_rounds 1 ?_
    rw [rounds_succ]
    go_wp2_with fail
    go_ret
    exact ⟨rfl, rfl⟩
/-- A span that has a register: which one it is, where it ends. -/
structure Hd where
  i : Nat
  en : Int
  deriving DecidableEq
def Hd.arr (x : Hd) : Array Value := #[.int .i64 (x.i : Int), .int .i64 x.en]
/-- x ends behind y. -/
def lo (x y : Hd) : Bool := decide (y.en < x.en ∨ (y.en = x.en ∧ y.i < x.i))
theorem lo_eq (x y : Hd) : decide (orI (cmpI y.en x.en) (cmpI y.i x.i) < 0) = lo x y := by
  unfold lo orI
  rw [decide_eq_decide]
  unfold cmpI
  by_cases h1 : y.en < x.en
  · simp [h1]
  · by_cases h2 : x.en < y.en
    · have h3 : ¬ y.en = x.en := by omega
      simp [h1, h2, h3]
    · have h3 : y.en = x.en := by omega
      by_cases h4 : (y.i : Int) < (x.i : Int)
      · have h5 : y.i < x.i := by omega
        simp [h3, h5]
      · have h5 : ¬ y.i < x.i := by omega
        by_cases h6 : (x.i : Int) < (y.i : Int)
        · have h7 : x.i < y.i := by omega
          simp [h3, h5, h7]
        · have h7 : ¬ x.i < y.i := by omega
          simp [h3, h5, h7]
set_option maxRecDepth 100000 in
set_option maxHeartbeats 1600000 in
theorem Less_any (w : World) (b n c p q : Nat) (x y : Hd) (hp : p < n) (hq : q < n) (hn : n ≤ 1000000) (x0 : w.cell? ⟨b, p * 2, none⟩ = some (.int .i64 (x.i : Int))) (x1 : w.cell? ⟨b, p * 2 + 1, none⟩ = some (.int .i64 x.en))
    (y0 : w.cell? ⟨b, q * 2, none⟩ = some (.int .i64 (y.i : Int))) (y1 : w.cell? ⟨b, q * 2 + 1, none⟩ = some (.int .i64 y.en)) :
    Calls Tryd.prog 40 #[.slice (some ⟨b, 0, none⟩) n c, .int .i64 (p : Int), .int .i64 (q : Int)] w fun e w' => e = .returned (.bool (lo x y)) ∧ Below w.heap.size w w' := by
  have hlt : b < w.heap.size := World.block_lt_of_cell? w _ x0
  have p0 : (0 : Int) ≤ (p : Int) := by omega
  have p1 : (p : Int) < (n : Int) := by omega
  have q0 : (0 : Int) ≤ (q : Int) := by omega
  have q1 : (q : Int) < (n : Int) := by omega
  have HE := Lib.hid (lo_eq x y)
  have HC := Lib.hid Compare_any
  obtain ⟨xi, xe⟩ := x
  obtain ⟨yi, ye⟩ := y
  simp only at x0 x1 y0 y1 HE
  go_enter Tryd.func40, Tryd.ntmps40
  go_wp2_with fail
  refine region_tail (C := fun w' => ∃ m, w' = w.drewN m) 22 (by kernel_rfl) ⟨1, rfl⟩ (by kernel_rfl) (by rfl) (by kernel_rfl) (by kernel_rfl) (by kernel_rfl) (by kernel_rfl) ?_
  simp only [List.take_succ_cons, List.take_zero, List.drop_succ_cons, List.drop_zero]
  repeat (go_big_quiet_step (first | (go_at_call 22; exact Calls.quiet_of_same (Compare_still _ _ _))))
  refine wpQuiet_nil ?_
  rintro _ ⟨m, rfl⟩
  generalize cmpI ye xe = c1 at *
  generalize cmpI yi xi = c2 at *
  have HG := Lib.hid (Blk.newAt (w := w.drewN m) (t := 3) (cs := #[.int .i64 c1, .int .i64 c2]) (k := w.heap.size) rfl)
  go_wp2_with (go_at_call 32; go_loud ( refine (Or_any _ _ c1 c2 (HG.out.cell 0) (HG.out.cell 1)).mono ?_; rintro e w' ⟨rfl, rfl⟩))
  go_ret
  refine ⟨by rw [← HE.out]; rfl, (below_drewN (Below.refl _ _) m).alloc (Nat.le_refl _) _⟩
end Go.Proofs.YtfgdkeomjplnnaaDoor

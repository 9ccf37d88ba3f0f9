/- The functions unit, made of package ploverlaw18. -/
import Derived.Test.YtekciedoldiieaaLowSame
namespace Go.Proofs.Ytekciedoldiieaa
open Go.RowKit

set_option maxRecDepth 100000 in
set_option maxHeartbeats 6400000 in
theorem unit_made (w : World) (st : SV) (A : Option Addr) (c : Nat) :
    Calls Try.prog 8 #[.agg (st.cells A c)] w fun e w' => ∃ b1 b2 : Nat, e = .returned (.agg #[.string ByteArray.empty, .int .i64 0, .int .i64 0, .int .i64 0, .int .i64 0, .slice (some ⟨b1, 0, none⟩) 1 1, .slice (some ⟨b2, 0, none⟩) 1 1]) ∧
      Blk w' b2 31 (st.cells A c) ∧ Below w.heap.size w w' := by
  obtain ⟨op, line, var, addr, count, ty, es, func, reg, next, els⟩ := st
  unfold SV.cells
  go_enter Try.func8, Try.ntmps8
  go_wp2
  refine bodyPost_ret (v := .agg #[.string ByteArray.empty, .int .i64 0, .int .i64 0, .int .i64 0, .int .i64 0, .slice (some ⟨w.heap.size + 2, 0, none⟩) 1 1, .slice (some ⟨w.heap.size + 3, 0, none⟩) 1 1]) (by simp [results, Try.results8, go_sem]; rfl) rfl ⟨w.heap.size + 2, w.heap.size + 3, rfl, ?_, ?_⟩
  · exact Blk.newAt (by simp)
  · exact ((((Below.refl _ _).alloc (Nat.le_refl _) _).alloc (by simp) _).alloc (by simp; omega) _).alloc (by simp; omega) _

/-- A step of which the instructions are these: made says so. -/
theorem made_yes (w : World) (st : SV) (A : Option Addr) (c : Nat) (W : Option Addr) (want : List I9) (cw : Nat) (regs : Int)
    (hes : RepEs w w.heap.size A st.es) (hok : st.ok) (hcap : st.es.length ≤ c) (hm : st.most < 1000000) (hw : Reads9 w W want) (h : unitL [st] 0 1 = (want, regs)) :
    Calls Try.prog 6 #[.agg (st.cells A c), .int .i64 regs, .slice W want.length cw] w fun e w' => e = .returned (.bool true) ∧ Below w.heap.size w w' := by
  have hunit := fun W => unit_made W st A c
  have hwl : want.length ≤ 1000000 := by
    have : want = (unitL [st] 0 1).1 := by rw [h]
    rw [this]
    have h1 := oneL_len st 1 0
    simp [unitL]
    omega
  have hwl0 : 0 < want.length := by
    have : want = (unitL [st] 0 1).1 := by rw [h]
    rw [this]
    simp [unitL, oneL]
  have hsts : ∀ (W : World) (b2 : Nat), Blk W b2 31 (st.cells A c) → RepEs W W.heap.size A st.es → RepSteps W W.heap.size (some ⟨b2, 0, none⟩) [st] := by
    intro W b2 hb hes _
    refine ⟨b2, 0, rfl, hb.lt, fun j st' hj => ?_⟩
    have hj0 : j = 0 := by
      rcases j with _ | j
      · rfl
      · simp at hj
    subst hj0
    simp at hj
    subst hj
    exact ⟨A, c, hes, hcap, fun i u hu => by rw [Nat.mul_zero, Nat.zero_add, hb.cell]; simpa using hu⟩
  have HSTS := Lib.hid hsts
  clear hsts
  have H := Lib.hid h
  clear h
  have hlow := fun W vec prio params res LA lc SA sc hs => unit_any W ByteArray.empty vec prio params res LA 1 lc SA sc [st] hs (by simpa using hok) (by simp) (by simp [mosts]; omega)
  have h' : unitL [st] 0 ((1 : Nat) : Int) = (want, regs) := H.out
  simp only [h'] at hlow
  clear h'
  have HLOW := Lib.hid hlow
  clear hlow
  have HUNIT := Lib.hid hunit
  clear hunit
  have hesA := fun (W : World) (hb : Below w.heap.size w W) => hes.kept (Keep.of_below hb) (Nat.le_refl _) (fun k hk hc => by omega)
  have HES := Lib.hid hesA
  clear hesA
  obtain ⟨op, line, var, addr, count, ty, es, func, reg, next, els⟩ := st
  simp only [SV.cells] at HUNIT HSTS ⊢
  go_enter Try.func6, Try.ntmps6
  go_wp2_with fail
  refine (HUNIT.out _).mono ?_
  rintro e w1 ⟨b1, b2, rfl, hb2, hbel⟩
  go_wp2_with fail
  have hb0 : Below w.heap.size w w1 := ((Below.refl _ _).alloc (Nat.le_refl _) _).trans (hbel.mono (by simp))
  refine (HLOW.out w1 _ _ _ _ _ _ _ _ (HSTS.out w1 b2 hb2 ?_)).mono ?_
  · exact (HES.out w1 hb0).more hb0.size
  rintro e w2 ⟨av, rfl, hown, hbel2⟩
  obtain ⟨gg, cap, rfl, _, _⟩ := hown.form (by have := hwl0; simpa using this)
  have hb2 : Below w.heap.size w w2 := hb0.trans (hbel2.mono hb0.size)
  go_wp2_with fail
  refine (same_any w2 _ _ want want _ _ (Reads9.of_own hown) (hw.below hb2 (Nat.le_refl _)) (by omega) (by omega)).mono ?_
  rintro e w3 ⟨rfl, n, rfl⟩
  go_wp2_with fail
  go_ret
  exact ⟨by simp, hb2.trans ⟨rfl, rfl, rfl, Nat.le_refl _, fun _ _ => rfl⟩⟩
end Go.Proofs.Ytekciedoldiieaa

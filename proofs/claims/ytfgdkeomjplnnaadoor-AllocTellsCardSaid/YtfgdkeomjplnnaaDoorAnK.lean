/- The document's answers for layer 20, walked: where a span ends, whether spans meet, how many do, whether homes are apart. Conditions: sizes. -/
import Derived.Test.YtfgdkeomjplnnaaDoorAnI
import Derived.Test.YtfgdkeomjplnnaaDoorLvQb
namespace Go.Proofs.YtfgdkeomjplnnaaDoor
set_option linter.unusedVariables false
open Go.RowKit
attribute [local irreducible] Blk
set_option maxRecDepth 100000 in
theorem rend_any (w : World) (s : Sp) (h0 : -1000000000 ≤ s.fr) (h1 : s.fr ≤ 1000000000) : Calls Tryd.prog 27 #[.agg s.arr] w fun e w' => e = .returned (.int .i64 (enS s)) ∧ Below w.heap.size w w' := by
  obtain ⟨v, a, b⟩ := s
  unfold enS Sp.arr
  simp only at *
  by_cases h : b ≤ a
  · have g1 : decide (b ≤ a) = true := decide_eq_true h
    have hm : max b (a + 1) = a + 1 := by omega
    rw [hm]
    clear h hm
    go_enter Tryd.func27, Tryd.ntmps27
    go_wp2_with fail
    go_ret
    exact ⟨rfl, (Below.refl _ _).alloc (Nat.le_refl _) _⟩
  · have g1 : decide (b ≤ a) = false := decide_eq_false h
    have hm : max b (a + 1) = b := by omega
    rw [hm]
    clear h hm
    go_enter Tryd.func27, Tryd.ntmps27
    go_wp2_with fail
    go_ret
    exact ⟨rfl, (Below.refl _ _).alloc (Nat.le_refl _) _⟩
set_option maxRecDepth 100000 in
set_option maxHeartbeats 800000 in
theorem rmeet_any (w : World) (x y : Sp) (h0 : -1000000000 ≤ x.fr ∧ x.fr ≤ 1000000000) (h1 : -1000000000 ≤ y.fr ∧ y.fr ≤ 1000000000) :
    Calls Tryd.prog 45 #[.agg #[.int .i64 x.v, .int .i64 x.fr, .int .i64 x.till], .agg #[.int .i64 y.v, .int .i64 y.fr, .int .i64 y.till]] w fun e w' => e = .returned (.bool (decide (meets x y))) ∧ Below w.heap.size w w' := by
  have HX := Lib.hid (fun W => rend_any W x h0.1 h0.2)
  have HY := Lib.hid (fun W => rend_any W y h1.1 h1.2)
  obtain ⟨res, hres⟩ : ∃ r, decide (meets x y) = r := ⟨_, rfl⟩
  rw [hres]
  have HM := Lib.hid (show decide (x.fr < enS y ∧ y.fr < enS x) = res from hres)
  clear hres h0 h1
  obtain ⟨xv, xf, xt⟩ := x
  obtain ⟨yv, yf, yt⟩ := y
  simp only at HX HY HM
  generalize enS ⟨xv, xf, xt⟩ = ex at *
  generalize enS ⟨yv, yf, yt⟩ = ey at *
  have key : ∀ (r1 r2 : Bool), decide (xf < ey) = r1 → (r1 = true → decide (yf < ex) = r2) → (r1 && r2) = res → Calls Tryd.prog 45 #[.agg #[.int .i64 xv, .int .i64 xf, .int .i64 xt], .agg #[.int .i64 yv, .int .i64 yf, .int .i64 yt]] w fun e w' => e = .returned (.bool res) ∧ Below w.heap.size w w' := by
    intro r1 r2 g1 g2 hr
    have HR := Lib.hid hr
    clear hr
    have HB1 := Lib.hid ((Blk.new w 32 #[.int .i64 xv, .int .i64 xf, .int .i64 xt]).alloc (.cells #[.int .i64 yv, .int .i64 yf, .int .i64 yt] 32))
    have HB2 := Lib.hid (Blk.newAt (w := w.alloc (.cells #[.int .i64 xv, .int .i64 xf, .int .i64 xt] 32)) (t := 32) (cs := #[.int .i64 yv, .int .i64 yf, .int .i64 yt]) (k := w.heap.size + 1) (by simp))
    have HBW := Lib.hid (((Below.refl w.heap.size w).alloc (Nat.le_refl _) (.cells #[.int .i64 xv, .int .i64 xf, .int .i64 xt] 32)).alloc (by simp) (.cells #[.int .i64 yv, .int .i64 yf, .int .i64 yt] 32))
    cases r1 with
    | true =>
      have g3 := g2 rfl
      clear g2
      go_enter Tryd.func45, Tryd.ntmps45
      go_wp2_with fail
      generalize (w.alloc (.cells #[.int .i64 xv, .int .i64 xf, .int .i64 xt] 32)).alloc (.cells #[.int .i64 yv, .int .i64 yf, .int .i64 yt] 32) = w2 at *
      have a0 := fun p : Bel w2 => bel_cell (HB1.out.cell 0) HB1.out.lt p
      have a1 := fun p : Bel w2 => bel_cell (HB1.out.cell 1) HB1.out.lt p
      have a2 := fun p : Bel w2 => bel_cell (HB1.out.cell 2) HB1.out.lt p
      have b0 := fun p : Bel w2 => bel_cell (HB2.out.cell 0) HB2.out.lt p
      have b1 := fun p : Bel w2 => bel_cell (HB2.out.cell 1) HB2.out.lt p
      have b2 := fun p : Bel w2 => bel_cell (HB2.out.cell 2) HB2.out.lt p
      simp at a0 a1 a2 b0 b1 b2
      refine region_bel (by kernel_rfl) (by kernel_rfl) ?_
      repeat (go_big_quiet_step (first | (go_at_call_of 27 (Value.agg #[.int .i64 xv, .int .i64 xf, .int .i64 xt]); exact calls_bel (HX.out _)) | (go_at_call_of 27 (Value.agg #[.int .i64 yv, .int .i64 yf, .int .i64 yt]); exact calls_bel (HY.out _))))
      refine wpQuiet_nil ?_
      rintro _ ⟨p, rfl⟩
      go_wp2_with fail
      go_ret
      refine ⟨by rw [← HR.out]; simp, HBW.out.trans (p.le.mono HBW.out.size)⟩
    | false =>
      clear g2
      go_enter Tryd.func45, Tryd.ntmps45
      go_wp2_with fail
      generalize (w.alloc (.cells #[.int .i64 xv, .int .i64 xf, .int .i64 xt] 32)).alloc (.cells #[.int .i64 yv, .int .i64 yf, .int .i64 yt] 32) = w2 at *
      have a0 := fun p : Bel w2 => bel_cell (HB1.out.cell 0) HB1.out.lt p
      have a1 := fun p : Bel w2 => bel_cell (HB1.out.cell 1) HB1.out.lt p
      have a2 := fun p : Bel w2 => bel_cell (HB1.out.cell 2) HB1.out.lt p
      have b0 := fun p : Bel w2 => bel_cell (HB2.out.cell 0) HB2.out.lt p
      have b1 := fun p : Bel w2 => bel_cell (HB2.out.cell 1) HB2.out.lt p
      have b2 := fun p : Bel w2 => bel_cell (HB2.out.cell 2) HB2.out.lt p
      simp at a0 a1 a2 b0 b1 b2
      refine region_bel (by kernel_rfl) (by kernel_rfl) ?_
      repeat (go_big_quiet_step (first | (go_at_call_of 27 (Value.agg #[.int .i64 xv, .int .i64 xf, .int .i64 xt]); exact calls_bel (HX.out _)) | (go_at_call_of 27 (Value.agg #[.int .i64 yv, .int .i64 yf, .int .i64 yt]); exact calls_bel (HY.out _))))
      refine wpQuiet_nil ?_
      rintro _ ⟨p, rfl⟩
      go_wp2_with fail
      go_ret
      refine ⟨by rw [← HR.out]; simp, HBW.out.trans (p.le.mono HBW.out.size)⟩
  refine key (decide (xf < ey)) (decide (yf < ex)) rfl (fun _ => rfl) ?_
  rw [← HM.out, Bool.decide_and]
/-! How many spans meet. -/
def mostK (sp : List Sp) (i : Nat) : Nat := (sp.take i).foldl (fun m s => max m (cov sp s.fr)) 0
theorem mostK_succ {sp : List Sp} {i : Nat} (h : i < sp.length) : mostK sp (i + 1) = max (mostK sp i) (cov sp (frS sp i)) := by
  have hg := List.getElem?_eq_getElem h
  unfold mostK
  rw [take_snoc' hg, List.foldl_append, (enI_get hg).2]
  rfl
theorem mostK_all (sp : List Sp) : mostK sp sp.length = mostF sp := by unfold mostK mostF; rw [List.take_length]
theorem mostK_le (sp : List Sp) (i : Nat) : mostK sp i ≤ sp.length := by
  have := foldl_max (fun s => cov sp s.fr) (sp.take i) 0
  unfold mostK
  rcases this.2.2 with h | ⟨s, _, h⟩
  · rw [h]; omega
  · rw [h]; exact List.countP_le_length
set_option maxRecDepth 100000 in
set_option maxHeartbeats 6400000 in
theorem rMost_any (w : World) (A : Option Addr) (sp : List Sp) (c : Nat) (hr : RepS w A sp) (hn : sp.length ≤ 1000) (hfr : ∀ s ∈ sp, -1000000000 ≤ s.fr ∧ s.fr ≤ 1000000000) :
    Calls Tryd.prog 29 #[.slice A sp.length c] w fun e w' => e = .returned (.int .i64 (mostF sp : Int)) ∧ Below w.heap.size w w' := by
  have HR := Lib.hid hr
  have HF := Lib.hid hfr
  clear hr hfr
  go_enter Tryd.func29, Tryd.ntmps29
  go_wp2_with fail
  go_loopw [3, 4] (fun mv iv wr => ∃ (i : Nat), iv = .int .i64 (i : Int) ∧ i ≤ sp.length ∧ mv = .int .i64 ((mostK sp i : Nat) : Int) ∧ Hid (Below w.heap.size w wr)) (fun _ iv _ => sp.length - (intOf iv).toNat)
  case atStart => exact ⟨0, rfl, Nat.zero_le _, rfl, Lib.hid (Below.refl _ _)⟩
  case round =>
    obtain ⟨i, rfl, hi, rfl, HB⟩ := hrel
    by_cases hil : i < sp.length
    · have i0 : (0 : Int) ≤ (i : Int) := by omega
      have i1 : (i : Int) < (sp.length : Int) := by omega
      have gi : decide ((i : Int) < (sp.length : Int)) = true := decide_eq_true i1
      obtain ⟨b, o, rfl⟩ := HR.out.some hil
      go_wp2_with fail
      go_loopw [5, 6] (fun nv kv wr => ∃ (k : Nat), kv = .int .i64 (k : Int) ∧ k ≤ sp.length ∧ nv = .int .i64 ((covK sp (frS sp i) k : Nat) : Int) ∧ Hid (Below w.heap.size w wr)) (fun _ kv _ => sp.length - (intOf kv).toNat)
      case atStart => exact ⟨0, rfl, Nat.zero_le _, rfl, HB⟩
      case round =>
        obtain ⟨k, rfl, hk, rfl, HB2⟩ := hrel
        by_cases hkl : k < sp.length
        · have k0 : (0 : Int) ≤ (k : Int) := by omega
          have k1 : (k : Int) < (sp.length : Int) := by omega
          have gk : decide ((k : Int) < (sp.length : Int)) = true := decide_eq_true k1
          obtain ⟨x, hx⟩ : ∃ x, sp[k]? = some x := ⟨_, List.getElem?_eq_getElem hkl⟩
          obtain ⟨b', o', he, hb, hall⟩ := HR.out (fun e => by rw [e] at hkl; simp at hkl)
          obtain ⟨rfl, rfl⟩ : b = b' ∧ o = o' := by simpa using he
          have hbw : b < wr.heap.size := by have := HB2.out.size; omega
          have HRW := Lib.hid (HR.out.far HB2.out)
          obtain ⟨ci1, ci2⟩ := HRW.out.at hil
          have cc := fun (j : Nat) (u : Value) (hu : x.arr[j]? = some u) => (HB2.out.cell (p := ⟨b, o + k * 3 + j, none⟩) hb).trans (hall k x hx j u hu)
          have c0 := cc 0 (.int .i64 x.v) rfl
          have c1 := cc 1 (.int .i64 x.fr) rfl
          have c2 := cc 2 (.int .i64 x.till) rfl
          rw [Nat.add_zero] at c0
          have di := fun p : Bel wr => bel_cell ci1 hbw p
          have d0 := fun p : Bel wr => bel_cell c0 hbw p
          have d1 := fun p : Bel wr => bel_cell c1 hbw p
          have d2 := fun p : Bel wr => bel_cell c2 hbw p
          obtain ⟨f0, f1⟩ := HF.out x (List.mem_of_getElem? hx)
          have HEN := Lib.hid (fun W => rend_any W x f0 f1)
          have HCS := Lib.hid (covK_succ (t := frS sp i) hkl)
          rw [(enI_get hx).1, (enI_get hx).2] at HCS
          have HCL := Lib.hid (covK_le sp (frS sp i) k)
          have hcl : ((covK sp (frS sp i) k : Nat) : Int) ≤ 1000 := by have := HCL.out; omega
          have hcl0 : (0 : Int) ≤ ((covK sp (frS sp i) k : Nat) : Int) := by omega
          clear cc c0 c1 c2 ci1 ci2 he hb hall hx f0 f1
          obtain ⟨xv, xf, xt⟩ := x
          simp only at d0 d1 d2 HEN HCS
          generalize enS ⟨xv, xf, xt⟩ = en at *
          by_cases u1 : xf ≤ frS sp i
          · have v1 : decide (xf ≤ frS sp i) = true := decide_eq_true u1
            by_cases u2 : frS sp i < en
            · have v2 : decide (frS sp i < en) = true := decide_eq_true u2
              have HC := Lib.hid (show covK sp (frS sp i) (k + 1) = covK sp (frS sp i) k + 1 from by rw [HCS.out, if_pos ⟨u1, u2⟩])
              clear u1 u2
              go_wp2_with fail
              refine region_bel (by kernel_rfl) (by kernel_rfl) ?_
              repeat (go_big_quiet_step (first | (go_at_call 27; exact calls_bel (HEN.out _))))
              refine wpQuiet_nil ?_
              rintro _ ⟨p, rfl⟩
              have HBE := Lib.hid (HB2.out.trans (p.le.mono HB2.out.size))
              generalize p.val = w5 at *
              go_wp2_with fail
              exact ⟨⟨k + 1, rfl, by omega, by rw [HC.out]; simp, HBE⟩, by simp [intOf]; omega⟩
            · have v2 : decide (frS sp i < en) = false := decide_eq_false u2
              have HC := Lib.hid (show covK sp (frS sp i) (k + 1) = covK sp (frS sp i) k + 0 from by rw [HCS.out, if_neg (fun h => u2 h.2)])
              clear u1 u2
              go_wp2_with fail
              refine region_bel (by kernel_rfl) (by kernel_rfl) ?_
              repeat (go_big_quiet_step (first | (go_at_call 27; exact calls_bel (HEN.out _))))
              refine wpQuiet_nil ?_
              rintro _ ⟨p, rfl⟩
              have HBE := Lib.hid (HB2.out.trans (p.le.mono HB2.out.size))
              generalize p.val = w5 at *
              go_wp2_with fail
              exact ⟨⟨k + 1, rfl, by omega, by rw [HC.out]; rfl, HBE⟩, by simp [intOf]; omega⟩
          · have v1 : decide (xf ≤ frS sp i) = false := decide_eq_false u1
            have HC := Lib.hid (show covK sp (frS sp i) (k + 1) = covK sp (frS sp i) k + 0 from by rw [HCS.out, if_neg (fun h => u1 h.1)])
            clear u1
            go_wp2_with fail
            refine region_bel (by kernel_rfl) (by kernel_rfl) ?_
            repeat (go_big_quiet_step (first | (go_at_call 27; exact calls_bel (HEN.out _))))
            refine wpQuiet_nil ?_
            rintro _ ⟨p, rfl⟩
            have HBE := Lib.hid (HB2.out.trans (p.le.mono HB2.out.size))
            generalize p.val = w5 at *
            go_wp2_with fail
            exact ⟨⟨k + 1, rfl, by omega, by rw [HC.out]; rfl, HBE⟩, by simp [intOf]; omega⟩
        · have hke : k = sp.length := by omega
          have gk : decide ((k : Int) < (sp.length : Int)) = false := decide_eq_false (by omega)
          have hcv : covK sp (frS sp i) k = cov sp (frS sp i) := by rw [hke, covK_all]
          rw [hcv]
          obtain ⟨mx, hmx⟩ : ∃ mx : Nat, mostK sp (i + 1) = mx := ⟨_, rfl⟩
          have hmax := fun ats ty => max_lit ats ty ((mostK sp i : Nat) : Int) ((cov sp (frS sp i) : Nat) : Int)
          have e : max ((mostK sp i : Nat) : Int) ((cov sp (frS sp i) : Nat) : Int) = (mx : Int) := by rw [← hmx, mostK_succ hil]; omega
          rw [e] at hmax
          have HMX := Lib.hid hmx
          clear e hmx hcv hke
          go_wp2_with fail
          exact ⟨⟨i + 1, rfl, by omega, by rw [HMX.out], HB2⟩, by simp [intOf]; omega⟩
    · have hie : i = sp.length := by omega
      have gi : decide ((i : Int) < (sp.length : Int)) = false := decide_eq_false (by omega)
      have hm : mostK sp i = mostF sp := by rw [hie, mostK_all]
      rw [hm]
      clear hm hie
      go_wp2_with fail
      go_ret
      exact ⟨rfl, HB.out⟩
end Go.Proofs.YtfgdkeomjplnnaaDoor

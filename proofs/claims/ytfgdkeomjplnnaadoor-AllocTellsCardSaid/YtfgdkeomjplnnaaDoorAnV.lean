/- AllocTells, its three cases: of any spans, and homes, the program and the document say the same: the walk. Condition: the table is as it is laid. -/
import Derived.Test.YtfgdkeomjplnnaaDoorAnU
import Derived.Deep.RegionLaw
namespace Go.Proofs.YtfgdkeomjplnnaaDoor
set_option linter.unusedVariables false
open Go.RowKit
attribute [local irreducible] Blk
set_option maxRecDepth 100000 in
set_option maxHeartbeats 20000000 in
theorem allocTells_s1 (w : World) (A0 A1 Ah : Option Addr) (raw : List Sp) (l : List P2) (hm : List Hm) (c0 c1 ch : Nat) (hr0 : RepS w A0 raw) (hl0 : raw.length ≤ 9223372036854775807) (hr1 : RepP2 w A1 l) (hok : ∀ x ∈ l, OkP2 x) (hl1 : l.length ≤ 9223372036854775807)
    (hh : RepH w Ah hm) (hl2 : hm.length ≤ ch) (hl3 : ch ≤ 9223372036854775807) (hwf : ∀ h ∈ hm, (Lit.int .i64 h.n).wf = true) (hT : TabAt 1 Lib.deBruijn64tab w) (hW : 1 < w.heap.size) (hc1 : 0 < (spansL l).length) (hc2 : 0 < hm.length) :
    Calls Tryd.prog 5 #[.slice A0 raw.length c0, .slice A1 l.length c1, .slice Ah hm.length ch] w fun e w' => e = .returned (.bool true) ∧ Below w.heap.size w w' := by
  have HHhc1 := Lib.hid hc1
  have HHhc2 := Lib.hid hc2
  clear hc1 hc2
  have hspl : (spansL l).length ≤ 100 := by unfold spansL; rw [spsTo_len]; omega
  have hbd : ∀ s ∈ spansL l, 0 ≤ s.fr ∧ s.fr ≤ 255 := fun s hs => by
    obtain ⟨i, hi⟩ := List.getElem?_of_mem hs
    have hil := (List.getElem?_eq_some_iff.1 hi).1
    unfold spansL at hi hil
    rw [spsTo_len] at hil
    rw [spsTo_get hil] at hi
    have : spanAt l i = s := by simpa using hi
    subst this
    have hg := List.getElem?_eq_getElem (show i < l.length by omega)
    have := hok _ (List.mem_of_getElem? hg)
    unfold spanAt
    rw [p2At_of hg]
    exact ⟨this.1, this.2.1⟩
  obtain ⟨n, hn⟩ : ∃ n, n = min hm.length 100 := ⟨_, rfl⟩
  have hmin := fun ats ty => min_lit ats ty ((hm.length : Nat) : Int) 100
  have e1 : min ((hm.length : Nat) : Int) 100 = (n : Int) := by omega
  rw [e1] at hmin
  have HCUT := Lib.hid (hh.cut n)
  have hcl : (hm.take n).length = n := by simp; omega
  have HCL := Lib.hid hcl
  have HWF := Lib.hid (show ∀ h ∈ hm.take n, (Lit.int .i64 h.n).wf = true from fun h hx => hwf h (List.mem_of_mem_take hx))
  have n0 : (0 : Int) ≤ (n : Int) := by omega
  have n1 : (n : Int) ≤ (ch : Int) := by omega
  have n2 : n ≤ 100 := by omega
  have n3 : (ch : Int) ≤ 9223372036854775807 := by omega
  have HR0 := Lib.hid hr0
  have HR1 := Lib.hid hr1
  have HOK := Lib.hid hok
  have HT := Lib.hid hT
  have HBD := Lib.hid hbd
  have HSPL := Lib.hid (spans_law2 w A1 l c1 hr1 hok hl1)
  have hnz : (0 < n) ↔ 0 < hm.length := by omega
  clear hr0 hr1 hok hT hbd hh hwf hl2 e1 hcl hn
  generalize hm.take n = hc at *
  have HNZ := Lib.hid hnz
  clear hnz
  go_enter Tryd.func5, Tryd.ntmps5
  go_wp2_with fail
  refine HSPL.out.mono ?_
  rintro e w2 ⟨A2, c2, rfl, hrep, hcap, hb2⟩
  generalize spansL l = sp at *
  have HB2 := Lib.hid hb2
  have HREP := Lib.hid hrep
  have HRL := Lib.hid (rAlloc_any w2 A2 sp c2 hrep (by omega) (fun s hs => by have := HBD.out s hs; omega))
  clear hrep hb2 HSPL
  go_wp2_with fail
  refine HRL.out.mono ?_
  rintro e w3 ⟨order, Bh, ho, hBh, rfl, hblk, hlen, hokh, hb3⟩
  have HB3 := Lib.hid (HB2.out.trans (hb3.mono HB2.out.size))
  have HREP3 := Lib.hid (HREP.out.far hb3)
  have HBLK := Lib.hid hblk
  have HLEN := Lib.hid hlen
  have HSO := Lib.hid hokh
  have hBhB : w.heap.size ≤ Bh := by have := HB2.out.size; omega
  have hBh2 : w2.heap.size ≤ Bh := hBh
  have HB23 := Lib.hid hb3
  clear ho hblk hlen hokh hb3 HRL hBh
  generalize regsF (allocF sp order).hs = rg at *
  generalize (allocF sp order).sl = sl at *
  generalize (allocF sp order).hs = hs at *
  obtain ⟨mn, hmn⟩ : ∃ mn, mn = min sp.length n := ⟨_, rfl⟩
  have hmin2 := fun ats ty => min_lit ats ty ((sp.length : Nat) : Int) (n : Int)
  have e2 : min ((sp.length : Nat) : Int) (n : Int) = (mn : Int) := by omega
  rw [e2] at hmin2
  have m0 : (0 : Int) ≤ (mn : Int) := by omega
  have m1 : (mn : Int) ≤ (c2 : Int) := by omega
  have m2 : (mn : Int) ≤ (ch : Int) := by omega
  have m3 : (c2 : Int) ≤ 9223372036854775807 := by have := hcap.2; unfold maxLen at this; omega
  have hml1 : (sp.take mn).length = mn := by simp; omega
  have hml2 : (hc.take mn).length = mn := by rw [List.length_take, HCL.out]; omega
  have hmn2 : mn ≤ 100 := by omega
  have HBD2 := Lib.hid (show ∀ s ∈ sp, -1000000000 ≤ s.fr ∧ s.fr ≤ 1000000000 from fun s hs => by have := HBD.out s hs; omega)
  have HSMB := Lib.hid (show ∀ s ∈ smallL raw, -1000000000 ≤ s.fr ∧ s.fr ≤ 1000000000 from fun s hs => by
    unfold smallL spsTo at hs
    obtain ⟨i, _, rfl⟩ := List.mem_map.1 hs
    have := tmod_bd ((raw[i]?).getD ⟨0, 0, 0⟩).fr
    unfold smAt smallS
    simp only
    omega)
  have hsml : (smallL raw).length ≤ 100 := by unfold smallL; rw [spsTo_len]; omega
  have HC1 := Lib.hid (fun (hb : List Hm) (W : World) (h : TW w W A0 A2 Ah Bh raw sp hb hc) => small_any W A0 raw c0 h.r hl0)
  have HC2 := Lib.hid (fun (hb : List Hm) (A6 : Option Addr) (c6 : Nat) (W : World) (h : TW w W A0 A2 Ah Bh raw sp hb hc) (h6 : RepS W A6 (smallL raw)) => show Calls Tryd.prog 14 #[.slice A6 (smallL raw).length c6, .slice Ah n ch] W fun e w' => e = .returned (.bool true) ∧ Below W.heap.size W w' from by
    have := alike_any W A6 Ah (smallL raw) hc c6 ch h6 h.h (by omega) (by rw [HCL.out]; omega) HSMB.out HWF.out (tab_below HT.out hW h.bel) (Nat.lt_of_lt_of_le hW h.bel.size)
    rwa [HCL.out] at this)
  have HC3 := Lib.hid (fun (hb : List Hm) (W : World) (h : TW w W A0 A2 Ah Bh raw sp hb hc) => show Calls Tryd.prog 14 #[.slice A2 sp.length c2, .slice Ah n ch] W fun e w' => e = .returned (.bool true) ∧ Below W.heap.size W w' from by
    have := alike_any W A2 Ah sp hc c2 ch h.s h.h (by omega) (by rw [HCL.out]; omega) HBD2.out HWF.out (tab_below HT.out hW h.bel) (Nat.lt_of_lt_of_le hW h.bel.size)
    rwa [HCL.out] at this)
  have HC4 := Lib.hid (fun (hb : List Hm) (hbl : hb.length = sp.length) (hbw : ∀ h ∈ hb, (Lit.int .i64 h.n).wf = true) (W : World) (h : TW w W A0 A2 Ah Bh raw sp hb hc) => show Calls Tryd.prog 14 #[.slice A2 sp.length c2, .slice (some ⟨Bh, 0, none⟩) sp.length sp.length] W fun e w' => e = .returned (.bool true) ∧ Below W.heap.size W w' from by
    have := alike_any W A2 (some ⟨Bh, 0, none⟩) sp hb c2 sp.length h.s (RepH.of_blk h.b) (by omega) (by rw [hbl]; omega) HBD2.out hbw (tab_below HT.out hW h.bel) (Nat.lt_of_lt_of_le hW h.bel.size)
    rwa [hbl] at this)
  have HC5 := Lib.hid (fun (hb : List Hm) (W : World) (h : TW w W A0 A2 Ah Bh raw sp hb hc) => show Calls Tryd.prog 14 #[.slice A2 mn c2, .slice Ah mn ch] W fun e w' => e = .returned (.bool true) ∧ Below W.heap.size W w' from by
    have := alike_any W A2 Ah (sp.take mn) (hc.take mn) c2 ch (h.s.cut mn) (h.h.cut mn) (by omega) (by omega) (fun s hs => HBD2.out s (List.mem_of_mem_take hs)) (fun x hx => HWF.out x (List.mem_of_mem_take hx)) (tab_below HT.out hW h.bel) (Nat.lt_of_lt_of_le hW h.bel.size)
    rwa [hml1, hml2] at this)
  have HC6 := Lib.hid (fun (hb : List Hm) (W : World) (h : TW w W A0 A2 Ah Bh raw sp hb hc) => works_any W (tab_below HT.out hW h.bel) (Nat.lt_of_lt_of_le hW h.bel.size))
  clear hmn e2 hcap hml1 hml2
  generalize smallL raw = sm at *
  have hnz := HNZ.out
  have hc1 := HHhc1.out
  have hc2 := HHhc2.out
  have s1 : (0 < sp.length) = True := eq_true hc1
  have s2 : (0 < n) = True := eq_true (hnz.2 hc2)
  have s3 : decide ((sp.length : Int) > 0) = true := decide_eq_true (by omega)
  have s4 : decide ((n : Int) > 0) = true := decide_eq_true (by have := of_eq_true s2; omega)
  clear hnz HNZ
  clear hc1 hc2
  have hsl : 0 < sp.length := of_eq_true s1
  have hnl : 0 < n := of_eq_true s2
  obtain ⟨idx, hidx⟩ : ∃ idx, n % sp.length = idx := ⟨_, rfl⟩
  have hidl : idx < sp.length := by rw [← hidx]; exact Nat.mod_lt _ hsl
  have hrem : ((n : Nat) : Int).tmod ((sp.length : Nat) : Int) = (idx : Int) := by
    rw [← hidx, Int.tmod_eq_emod_of_nonneg (by omega)]
    rfl
  have hz : (((sp.length : Nat) : Int) == 0) = false := by
    simp only [beq_eq_false_iff_ne, ne_eq]
    omega
  have hne : (sp = []) = False := eq_false (fun e => by rw [e] at hsl; simp at hsl)
  obtain ⟨h0, hh0⟩ : ∃ h0, hc[0]? = some h0 := ⟨_, List.getElem?_eq_getElem (show 0 < hc.length by rw [HCL.out]; exact hnl)⟩
  obtain ⟨bh, oh, rfl, hbh, hch⟩ := HCUT.out (by intro e; rw [e] at hh0; simp at hh0)
  have e0 := (HB3.out.cell (p := ⟨bh, oh + 0 * 2, none⟩) hbh).trans (hch 0 h0 hh0).1
  have e1 := (HB3.out.cell (p := ⟨bh, oh + 0 * 2 + 1, none⟩) hbh).trans (hch 0 h0 hh0).2
  rw [Nat.zero_mul, Nat.add_zero] at e0 e1
  have hwf0 := HWF.out h0 (List.mem_of_getElem? hh0)
  obtain ⟨y, hy⟩ : ∃ y, hs[idx]? = some y := ⟨_, List.getElem?_eq_getElem (by rw [HLEN.out]; exact hidl)⟩
  obtain ⟨q1, q2⟩ := hmCells_get _ _ _ hy
  have f0 := (HBLK.out.cell (idx * 2)).trans (show _ = some (Value.bool y.isSlot) by simpa using q1)
  have f1 := (HBLK.out.cell (idx * 2 + 1)).trans (show _ = some (Value.int .i64 y.n) by simpa using q2)
  have fz0 := HBLK.out.frozen (idx * 2)
  have fz1 := HBLK.out.frozen (idx * 2 + 1)
  have x0 : (0 : Int) ≤ (idx : Int) := by omega
  have x1 : (idx : Int) < (sp.length : Int) := by omega
  have x2 : (0 : Int) < (n : Int) := by omega
  have HNB := Lib.hid (show ∃ hb : List Hm, hb = hs.set idx h0 ∧ hb.length = sp.length ∧ ∀ h ∈ hb, (Lit.int .i64 h.n).wf = true from ⟨_, rfl, by rw [List.length_set]; exact HLEN.out, fun h hx => by
    rcases List.mem_or_eq_of_mem_set hx with hx | rfl
    · exact WalkArith.wf_i64 (by have := HSO.out h hx; omega)
    · exact hwf0⟩)
  have HST := Lib.hid (fun m => show Blk ((((w3.drewN m).setCell ⟨Bh, idx * 2, none⟩ (.bool h0.isSlot)).setCell ⟨Bh, idx * 2 + 1, none⟩ (.int .i64 h0.n))) Bh 30 (hmCells (hs.set idx h0)).toArray from by
    have := ((HBLK.out.drewN m).set (idx * 2) (.bool h0.isSlot)).set (idx * 2 + 1) (.int .i64 h0.n)
    rw [hmCells_set]
    simpa using this)
  have HBB := Lib.hid (fun m => ((below_drewN HB3.out m).setCell (p := ⟨Bh, idx * 2, none⟩) hBhB (.bool h0.isSlot)).setCell (p := ⟨Bh, idx * 2 + 1, none⟩) hBhB (.int .i64 h0.n))
  have HTW := Lib.hid (fun m => show TW w (((w3.drewN m).setCell ⟨Bh, idx * 2, none⟩ (.bool h0.isSlot)).setCell ⟨Bh, idx * 2 + 1, none⟩ (.int .i64 h0.n)) A0 A2 (some ⟨bh, oh, none⟩) Bh raw sp (hs.set idx h0) hc from
    ⟨HR0.out.far (HBB.out m), HREP.out.far (((below_drewN HB23.out m).setCell (p := ⟨Bh, idx * 2, none⟩) hBh2 _).setCell (p := ⟨Bh, idx * 2 + 1, none⟩) hBh2 _), HST.out m, HCUT.out.far (HBB.out m), HBB.out m⟩)
  obtain ⟨hs0, hn0⟩ := h0
  simp only at e0 e1 HST HBB HTW
  clear hch hh0 hwf0 q1 q2 hy hidx hsl hnl
  go_wp2_with fail
  go_region_law (fail)
  go_wp2_with fail
  obtain ⟨_, rfl, hbl, hbw⟩ := HNB.out
  clear HR0 HR1 HOK HBD HCUT HCL HWF HB2 HREP HB3 HREP3 HBLK HLEN HSO HB23 HBD2 HSMB HT hmin n0 n1 n2 n3 hBhB hBh2 hspl hl0 hl1 hl3 hsml hmn2
  refine wp_region_any (by kernel_rfl) ?_
  change wpAny _ _ _ _ _ _ _ (World.drew _)
  refine wpAny_take (i := 0) (v := ?_) rfl (by kernel_rfl) (by kernel_rfl) (by kernel_rfl) (fun _ _ _ h => h) (Or.inl ⟨by kernel_rfl, ?_⟩) ?_
  rotate_left
  · intro w'
    go_simp
    with_reducible rfl
  simp only [List.getElem_toArray, List.getElem_cons_zero, Act.put, List.setIfInBounds_toArray, List.set_cons_succ, List.set_cons_zero]
  refine wpAny_take (i := 2) (v := ?_) rfl (by kernel_rfl) (by kernel_rfl) (by kernel_rfl) (fun _ _ _ h => h) (Or.inl ⟨by kernel_rfl, ?_⟩) ?_
  rotate_left
  · intro w'
    go_simp
    with_reducible rfl
  simp only [List.getElem_toArray, List.getElem_cons_zero, List.getElem_cons_succ, Act.put, List.setIfInBounds_toArray, List.set_cons_succ, List.set_cons_zero]
  refine wpAny_ready (rs := [1]) (by kernel_rfl) (by simp) ?_
  refine AllReady.cons rfl (fun K hK => ?_) AllReady.nil
  refine step_callP (by kernel_rfl) 15 #[.slice A0 raw.length c0] (by kernel_rfl) (HC1.out (hs.set idx ⟨hs0, hn0⟩) _ (HTW.out 2)) ?_
  rintro e w5 ⟨A6, c6, rfl, h6, hb5⟩
  refine ⟨_, rfl, ?_⟩
  have HT5 := Lib.hid ((HTW.out 2).far hb5); have H6 := Lib.hid h6; clear h6 hb5
  refine hK _ _ ?_
  clear hK K
  simp only [List.getElem_toArray, List.getElem_cons_zero, List.getElem_cons_succ, Act.put, List.setIfInBounds_toArray, List.set_cons_succ, List.set_cons_zero]
  refine wpAny_ready (rs := [3]) (by kernel_rfl) (by simp) ?_
  refine AllReady.cons rfl (fun K hK => ?_) AllReady.nil
  refine step_callP (by kernel_rfl) 14 #[.slice A6 sm.length c6, .slice (some ⟨bh, oh, none⟩) n ch] (by kernel_rfl) (HC2.out (hs.set idx ⟨hs0, hn0⟩) A6 c6 _ HT5.out H6.out) ?_
  rintro e w6 ⟨rfl, hb6⟩
  refine ⟨_, rfl, ?_⟩
  have HT6 := Lib.hid (HT5.out.far hb6); clear hb6 H6 HT5
  refine hK _ _ ?_
  clear hK K
  simp only [List.getElem_toArray, List.getElem_cons_zero, List.getElem_cons_succ, Act.put, List.setIfInBounds_toArray, List.set_cons_succ, List.set_cons_zero]
  refine wpAny_take (i := 4) (v := ?_) rfl (by kernel_rfl) (by kernel_rfl) (by kernel_rfl) (fun _ _ _ h => h) (Or.inl ⟨by kernel_rfl, ?_⟩) ?_
  rotate_left
  · intro w'
    go_simp
    with_reducible rfl
  simp only [List.getElem_toArray, List.getElem_cons_zero, List.getElem_cons_succ, Act.put, List.setIfInBounds_toArray, List.set_cons_succ, List.set_cons_zero]
  refine wpAny_take (i := 5) (v := ?_) rfl (by kernel_rfl) (by kernel_rfl) (by kernel_rfl) (fun _ _ _ h => h) (Or.inl ⟨by kernel_rfl, ?_⟩) ?_
  rotate_left
  · intro w'
    go_simp
    with_reducible rfl
  simp only [List.getElem_toArray, List.getElem_cons_zero, List.getElem_cons_succ, Act.put, List.setIfInBounds_toArray, List.set_cons_succ, List.set_cons_zero]
  refine wpAny_take (i := 6) (v := ?_) rfl (by kernel_rfl) (by kernel_rfl) (by kernel_rfl) (fun _ _ _ h => h) (Or.inl ⟨by kernel_rfl, ?_⟩) ?_
  rotate_left
  · intro w'
    go_simp
    with_reducible rfl
  simp only [List.getElem_toArray, List.getElem_cons_zero, List.getElem_cons_succ, Act.put, List.setIfInBounds_toArray, List.set_cons_succ, List.set_cons_zero]
  refine wpAny_ready (rs := [7]) (by kernel_rfl) (by simp) ?_
  refine AllReady.cons rfl (fun K hK => ?_) AllReady.nil
  refine step_callP (by kernel_rfl) 14 #[.slice A2 sp.length c2, .slice (some ⟨bh, oh, none⟩) n ch] (by kernel_rfl) (HC3.out (hs.set idx ⟨hs0, hn0⟩) _ HT6.out) ?_
  rintro e w7 ⟨rfl, hb6⟩
  refine ⟨_, rfl, ?_⟩
  have HT7 := Lib.hid (HT6.out.far hb6); clear hb6 HT6
  refine hK _ _ ?_
  clear hK K
  simp only [List.getElem_toArray, List.getElem_cons_zero, List.getElem_cons_succ, Act.put, List.setIfInBounds_toArray, List.set_cons_succ, List.set_cons_zero]
  refine wpAny_take (i := 8) (v := ?_) rfl (by kernel_rfl) (by kernel_rfl) (by kernel_rfl) (fun _ _ _ h => h) (Or.inl ⟨by kernel_rfl, ?_⟩) ?_
  rotate_left
  · intro w'
    go_simp
    with_reducible rfl
  simp only [List.getElem_toArray, List.getElem_cons_zero, List.getElem_cons_succ, Act.put, List.setIfInBounds_toArray, List.set_cons_succ, List.set_cons_zero]
  refine wpAny_take (i := 9) (v := ?_) rfl (by kernel_rfl) (by kernel_rfl) (by kernel_rfl) (fun _ _ _ h => h) (Or.inl ⟨by kernel_rfl, ?_⟩) ?_
  rotate_left
  · intro w'
    go_simp
    with_reducible rfl
  simp only [List.getElem_toArray, List.getElem_cons_zero, List.getElem_cons_succ, Act.put, List.setIfInBounds_toArray, List.set_cons_succ, List.set_cons_zero]
  refine wpAny_take (i := 10) (v := ?_) rfl (by kernel_rfl) (by kernel_rfl) (by kernel_rfl) (fun _ _ _ h => h) (Or.inl ⟨by kernel_rfl, ?_⟩) ?_
  rotate_left
  · intro w'
    go_simp
    with_reducible rfl
  simp only [List.getElem_toArray, List.getElem_cons_zero, List.getElem_cons_succ, Act.put, List.setIfInBounds_toArray, List.set_cons_succ, List.set_cons_zero]
  refine wpAny_take (i := 11) (v := ?_) rfl (by kernel_rfl) (by kernel_rfl) (by kernel_rfl) (fun _ _ _ h => h) (Or.inl ⟨by kernel_rfl, ?_⟩) ?_
  rotate_left
  · intro w'
    go_simp
    with_reducible rfl
  simp only [List.getElem_toArray, List.getElem_cons_zero, List.getElem_cons_succ, Act.put, List.setIfInBounds_toArray, List.set_cons_succ, List.set_cons_zero]
  refine wpAny_ready (rs := [12]) (by kernel_rfl) (by simp) ?_
  refine AllReady.cons rfl (fun K hK => ?_) AllReady.nil
  refine step_callP (by kernel_rfl) 14 #[.slice A2 sp.length c2, .slice (some ⟨Bh, 0, none⟩) sp.length sp.length] (by kernel_rfl) (HC4.out (hs.set idx ⟨hs0, hn0⟩) hbl hbw _ HT7.out) ?_
  rintro e w8 ⟨rfl, hb6⟩
  refine ⟨_, rfl, ?_⟩
  have HT8 := Lib.hid (HT7.out.far hb6); clear hb6 HT7
  refine hK _ _ ?_
  clear hK K
  simp only [List.getElem_toArray, List.getElem_cons_zero, List.getElem_cons_succ, Act.put, List.setIfInBounds_toArray, List.set_cons_succ, List.set_cons_zero]
  refine wpAny_take (i := 13) (v := ?_) rfl (by kernel_rfl) (by kernel_rfl) (by kernel_rfl) (fun _ _ _ h => h) (Or.inl ⟨by kernel_rfl, ?_⟩) ?_
  rotate_left
  · intro w'
    go_simp
    with_reducible rfl
  simp only [List.getElem_toArray, List.getElem_cons_zero, List.getElem_cons_succ, Act.put, List.setIfInBounds_toArray, List.set_cons_succ, List.set_cons_zero]
  refine wpAny_take (i := 14) (v := ?_) rfl (by kernel_rfl) (by kernel_rfl) (by kernel_rfl) (fun _ _ _ h => h) (Or.inl ⟨by kernel_rfl, ?_⟩) ?_
  rotate_left
  · intro w'
    go_simp
    with_reducible rfl
  simp only [List.getElem_toArray, List.getElem_cons_zero, List.getElem_cons_succ, Act.put, List.setIfInBounds_toArray, List.set_cons_succ, List.set_cons_zero]
  refine wpAny_take (i := 15) (v := ?_) rfl (by kernel_rfl) (by kernel_rfl) (by kernel_rfl) (fun _ _ _ h => h) (Or.inl ⟨by kernel_rfl, ?_⟩) ?_
  rotate_left
  · intro w'
    go_simp
    with_reducible rfl
  simp only [List.getElem_toArray, List.getElem_cons_zero, List.getElem_cons_succ, Act.put, List.setIfInBounds_toArray, List.set_cons_succ, List.set_cons_zero]
  refine wpAny_take (i := 16) (v := ?_) rfl (by kernel_rfl) (by kernel_rfl) (by kernel_rfl) (fun _ _ _ h => h) (Or.inl ⟨by kernel_rfl, ?_⟩) ?_
  rotate_left
  · intro w'
    go_simp
    with_reducible rfl
  simp only [List.getElem_toArray, List.getElem_cons_zero, List.getElem_cons_succ, Act.put, List.setIfInBounds_toArray, List.set_cons_succ, List.set_cons_zero]
  refine wpAny_take (i := 17) (v := ?_) rfl (by kernel_rfl) (by kernel_rfl) (by kernel_rfl) (fun _ _ _ h => h) (Or.inl ⟨by kernel_rfl, ?_⟩) ?_
  rotate_left
  · intro w'
    go_simp
    with_reducible rfl
  simp only [List.getElem_toArray, List.getElem_cons_zero, List.getElem_cons_succ, Act.put, List.setIfInBounds_toArray, List.set_cons_succ, List.set_cons_zero]
  refine wpAny_take (i := 18) (v := ?_) rfl (by kernel_rfl) (by kernel_rfl) (by kernel_rfl) (fun _ _ _ h => h) (Or.inl ⟨by kernel_rfl, ?_⟩) ?_
  rotate_left
  · intro w'
    go_simp
    with_reducible rfl
  simp only [List.getElem_toArray, List.getElem_cons_zero, List.getElem_cons_succ, Act.put, List.setIfInBounds_toArray, List.set_cons_succ, List.set_cons_zero]
  refine wpAny_take (i := 19) (v := ?_) rfl (by kernel_rfl) (by kernel_rfl) (by kernel_rfl) (fun _ _ _ h => h) (Or.inl ⟨by kernel_rfl, ?_⟩) ?_
  rotate_left
  · intro w'
    go_simp
    with_reducible rfl
  simp only [List.getElem_toArray, List.getElem_cons_zero, List.getElem_cons_succ, Act.put, List.setIfInBounds_toArray, List.set_cons_succ, List.set_cons_zero]
  refine wpAny_take (i := 20) (v := ?_) rfl (by kernel_rfl) (by kernel_rfl) (by kernel_rfl) (fun _ _ _ h => h) (Or.inl ⟨by kernel_rfl, ?_⟩) ?_
  rotate_left
  · intro w'
    go_simp
    with_reducible rfl
  simp only [List.getElem_toArray, List.getElem_cons_zero, List.getElem_cons_succ, Act.put, List.setIfInBounds_toArray, List.set_cons_succ, List.set_cons_zero]
  refine wpAny_take (i := 21) (v := ?_) rfl (by kernel_rfl) (by kernel_rfl) (by kernel_rfl) (fun _ _ _ h => h) (Or.inl ⟨by kernel_rfl, ?_⟩) ?_
  rotate_left
  · intro w'
    go_simp
    with_reducible rfl
  simp only [List.getElem_toArray, List.getElem_cons_zero, List.getElem_cons_succ, Act.put, List.setIfInBounds_toArray, List.set_cons_succ, List.set_cons_zero]
  refine wpAny_take (i := 22) (v := ?_) rfl (by kernel_rfl) (by kernel_rfl) (by kernel_rfl) (fun _ _ _ h => h) (Or.inl ⟨by kernel_rfl, ?_⟩) ?_
  rotate_left
  · intro w'
    go_simp
    with_reducible rfl
  simp only [List.getElem_toArray, List.getElem_cons_zero, List.getElem_cons_succ, Act.put, List.setIfInBounds_toArray, List.set_cons_succ, List.set_cons_zero]
  refine wpAny_take (i := 23) (v := ?_) rfl (by kernel_rfl) (by kernel_rfl) (by kernel_rfl) (fun _ _ _ h => h) (Or.inl ⟨by kernel_rfl, ?_⟩) ?_
  rotate_left
  · intro w'
    go_simp
    with_reducible rfl
  simp only [List.getElem_toArray, List.getElem_cons_zero, List.getElem_cons_succ, Act.put, List.setIfInBounds_toArray, List.set_cons_succ, List.set_cons_zero]
  refine wpAny_take (i := 24) (v := ?_) rfl (by kernel_rfl) (by kernel_rfl) (by kernel_rfl) (fun _ _ _ h => h) (Or.inl ⟨by kernel_rfl, ?_⟩) ?_
  rotate_left
  · intro w'
    go_simp
    with_reducible rfl
  simp only [List.getElem_toArray, List.getElem_cons_zero, List.getElem_cons_succ, Act.put, List.setIfInBounds_toArray, List.set_cons_succ, List.set_cons_zero]
  refine wpAny_take (i := 25) (v := ?_) rfl (by kernel_rfl) (by kernel_rfl) (by kernel_rfl) (fun _ _ _ h => h) (Or.inl ⟨by kernel_rfl, ?_⟩) ?_
  rotate_left
  · intro w'
    go_simp
    with_reducible rfl
  simp only [List.getElem_toArray, List.getElem_cons_zero, List.getElem_cons_succ, Act.put, List.setIfInBounds_toArray, List.set_cons_succ, List.set_cons_zero]
  refine wpAny_take (i := 26) (v := ?_) rfl (by kernel_rfl) (by kernel_rfl) (by kernel_rfl) (fun _ _ _ h => h) (Or.inl ⟨by kernel_rfl, ?_⟩) ?_
  rotate_left
  · intro w'
    go_simp
    with_reducible rfl
  simp only [List.getElem_toArray, List.getElem_cons_zero, List.getElem_cons_succ, Act.put, List.setIfInBounds_toArray, List.set_cons_succ, List.set_cons_zero]
  refine wpAny_take (i := 27) (v := ?_) rfl (by kernel_rfl) (by kernel_rfl) (by kernel_rfl) (fun _ _ _ h => h) (Or.inl ⟨by kernel_rfl, ?_⟩) ?_
  rotate_left
  · intro w'
    go_simp
    with_reducible rfl
  simp only [List.getElem_toArray, List.getElem_cons_zero, List.getElem_cons_succ, Act.put, List.setIfInBounds_toArray, List.set_cons_succ, List.set_cons_zero]
  refine wpAny_take (i := 28) (v := ?_) rfl (by kernel_rfl) (by kernel_rfl) (by kernel_rfl) (fun _ _ _ h => h) (Or.inl ⟨by kernel_rfl, ?_⟩) ?_
  rotate_left
  · intro w'
    go_simp
    with_reducible rfl
  simp only [List.getElem_toArray, List.getElem_cons_zero, List.getElem_cons_succ, Act.put, List.setIfInBounds_toArray, List.set_cons_succ, List.set_cons_zero]
  refine wpAny_ready (rs := [29]) (by kernel_rfl) (by simp) ?_
  refine AllReady.cons rfl (fun K hK => ?_) AllReady.nil
  refine step_callP (by kernel_rfl) 14 #[.slice A2 mn c2, .slice (some ⟨bh, oh, none⟩) mn ch] (by kernel_rfl) (HC5.out (hs.set idx ⟨hs0, hn0⟩) _ HT8.out) ?_
  rintro e w9 ⟨rfl, hb6⟩
  refine ⟨_, rfl, ?_⟩
  have HT9 := Lib.hid (HT8.out.far hb6); clear hb6 HT8
  refine hK _ _ ?_
  clear hK K
  simp only [List.getElem_toArray, List.getElem_cons_zero, List.getElem_cons_succ, Act.put, List.setIfInBounds_toArray, List.set_cons_succ, List.set_cons_zero]
  refine wpAny_take (i := 30) (v := ?_) rfl (by kernel_rfl) (by kernel_rfl) (by kernel_rfl) (fun _ _ _ h => h) (Or.inl ⟨by kernel_rfl, ?_⟩) ?_
  rotate_left
  · intro w'
    go_simp
    with_reducible rfl
  simp only [List.getElem_toArray, List.getElem_cons_zero, List.getElem_cons_succ, Act.put, List.setIfInBounds_toArray, List.set_cons_succ, List.set_cons_zero]
  refine wpAny_take (i := 31) (v := ?_) rfl (by kernel_rfl) (by kernel_rfl) (by kernel_rfl) (fun _ _ _ h => h) (Or.inl ⟨by kernel_rfl, ?_⟩) ?_
  rotate_left
  · intro w'
    go_simp
    with_reducible rfl
  simp only [List.getElem_toArray, List.getElem_cons_zero, List.getElem_cons_succ, Act.put, List.setIfInBounds_toArray, List.set_cons_succ, List.set_cons_zero]
  refine wpAny_ready (rs := [32]) (by kernel_rfl) (by simp) ?_
  refine AllReady.cons rfl (fun K hK => ?_) AllReady.nil
  refine step_callP (by kernel_rfl) 8 #[] (by kernel_rfl) (HC6.out (hs.set idx ⟨hs0, hn0⟩) _ HT9.out) ?_
  rintro e w10 ⟨rfl, hb6⟩
  refine ⟨_, rfl, ?_⟩
  have HT10 := Lib.hid (HT9.out.far hb6); clear hb6 HT9
  refine hK _ _ ?_
  clear hK K
  simp only [List.getElem_toArray, List.getElem_cons_zero, List.getElem_cons_succ, Act.put, List.setIfInBounds_toArray, List.set_cons_succ, List.set_cons_zero]
  refine wpAny_take (i := 33) (v := ?_) rfl (by kernel_rfl) (by kernel_rfl) (by kernel_rfl) (fun _ _ _ h => h) (Or.inl ⟨by kernel_rfl, ?_⟩) ?_
  rotate_left
  · intro w'
    go_simp
    with_reducible rfl
  simp only [List.getElem_toArray, List.getElem_cons_zero, List.getElem_cons_succ, Act.put, List.setIfInBounds_toArray, List.set_cons_succ, List.set_cons_zero]
  refine wpAny_take (i := 34) (v := ?_) rfl (by kernel_rfl) (by kernel_rfl) (by kernel_rfl) (fun _ _ _ h => h) (Or.inl ⟨by kernel_rfl, ?_⟩) ?_
  rotate_left
  · intro w'
    go_simp
    with_reducible rfl
  simp only [List.getElem_toArray, List.getElem_cons_zero, List.getElem_cons_succ, Act.put, List.setIfInBounds_toArray, List.set_cons_succ, List.set_cons_zero]
  refine wpAny_done (by kernel_rfl) ?_ _
  go_wp2_with fail
  go_ret
  exact ⟨rfl, HT10.out.bel⟩
set_option maxRecDepth 100000 in
set_option maxHeartbeats 20000000 in
theorem allocTells_s2 (w : World) (A0 A1 Ah : Option Addr) (raw : List Sp) (l : List P2) (hm : List Hm) (c0 c1 ch : Nat) (hr0 : RepS w A0 raw) (hl0 : raw.length ≤ 9223372036854775807) (hr1 : RepP2 w A1 l) (hok : ∀ x ∈ l, OkP2 x) (hl1 : l.length ≤ 9223372036854775807)
    (hh : RepH w Ah hm) (hl2 : hm.length ≤ ch) (hl3 : ch ≤ 9223372036854775807) (hwf : ∀ h ∈ hm, (Lit.int .i64 h.n).wf = true) (hT : TabAt 1 Lib.deBruijn64tab w) (hW : 1 < w.heap.size) (hc1 : 0 < (spansL l).length) (hc2 : hm.length = 0) :
    Calls Tryd.prog 5 #[.slice A0 raw.length c0, .slice A1 l.length c1, .slice Ah hm.length ch] w fun e w' => e = .returned (.bool true) ∧ Below w.heap.size w w' := by
  have HHhc1 := Lib.hid hc1
  have HHhc2 := Lib.hid hc2
  clear hc1 hc2
  have hspl : (spansL l).length ≤ 100 := by unfold spansL; rw [spsTo_len]; omega
  have hbd : ∀ s ∈ spansL l, 0 ≤ s.fr ∧ s.fr ≤ 255 := fun s hs => by
    obtain ⟨i, hi⟩ := List.getElem?_of_mem hs
    have hil := (List.getElem?_eq_some_iff.1 hi).1
    unfold spansL at hi hil
    rw [spsTo_len] at hil
    rw [spsTo_get hil] at hi
    have : spanAt l i = s := by simpa using hi
    subst this
    have hg := List.getElem?_eq_getElem (show i < l.length by omega)
    have := hok _ (List.mem_of_getElem? hg)
    unfold spanAt
    rw [p2At_of hg]
    exact ⟨this.1, this.2.1⟩
  obtain ⟨n, hn⟩ : ∃ n, n = min hm.length 100 := ⟨_, rfl⟩
  have hmin := fun ats ty => min_lit ats ty ((hm.length : Nat) : Int) 100
  have e1 : min ((hm.length : Nat) : Int) 100 = (n : Int) := by omega
  rw [e1] at hmin
  have HCUT := Lib.hid (hh.cut n)
  have hcl : (hm.take n).length = n := by simp; omega
  have HCL := Lib.hid hcl
  have HWF := Lib.hid (show ∀ h ∈ hm.take n, (Lit.int .i64 h.n).wf = true from fun h hx => hwf h (List.mem_of_mem_take hx))
  have n0 : (0 : Int) ≤ (n : Int) := by omega
  have n1 : (n : Int) ≤ (ch : Int) := by omega
  have n2 : n ≤ 100 := by omega
  have n3 : (ch : Int) ≤ 9223372036854775807 := by omega
  have HR0 := Lib.hid hr0
  have HR1 := Lib.hid hr1
  have HOK := Lib.hid hok
  have HT := Lib.hid hT
  have HBD := Lib.hid hbd
  have HSPL := Lib.hid (spans_law2 w A1 l c1 hr1 hok hl1)
  have hnz : (0 < n) ↔ 0 < hm.length := by omega
  clear hr0 hr1 hok hT hbd hh hwf hl2 e1 hcl hn
  generalize hm.take n = hc at *
  have HNZ := Lib.hid hnz
  clear hnz
  go_enter Tryd.func5, Tryd.ntmps5
  go_wp2_with fail
  refine HSPL.out.mono ?_
  rintro e w2 ⟨A2, c2, rfl, hrep, hcap, hb2⟩
  generalize spansL l = sp at *
  have HB2 := Lib.hid hb2
  have HREP := Lib.hid hrep
  have HRL := Lib.hid (rAlloc_any w2 A2 sp c2 hrep (by omega) (fun s hs => by have := HBD.out s hs; omega))
  clear hrep hb2 HSPL
  go_wp2_with fail
  refine HRL.out.mono ?_
  rintro e w3 ⟨order, Bh, ho, hBh, rfl, hblk, hlen, hokh, hb3⟩
  have HB3 := Lib.hid (HB2.out.trans (hb3.mono HB2.out.size))
  have HREP3 := Lib.hid (HREP.out.far hb3)
  have HBLK := Lib.hid hblk
  have HLEN := Lib.hid hlen
  have HSO := Lib.hid hokh
  have hBhB : w.heap.size ≤ Bh := by have := HB2.out.size; omega
  have hBh2 : w2.heap.size ≤ Bh := hBh
  have HB23 := Lib.hid hb3
  clear ho hblk hlen hokh hb3 HRL hBh
  generalize regsF (allocF sp order).hs = rg at *
  generalize (allocF sp order).sl = sl at *
  generalize (allocF sp order).hs = hs at *
  obtain ⟨mn, hmn⟩ : ∃ mn, mn = min sp.length n := ⟨_, rfl⟩
  have hmin2 := fun ats ty => min_lit ats ty ((sp.length : Nat) : Int) (n : Int)
  have e2 : min ((sp.length : Nat) : Int) (n : Int) = (mn : Int) := by omega
  rw [e2] at hmin2
  have m0 : (0 : Int) ≤ (mn : Int) := by omega
  have m1 : (mn : Int) ≤ (c2 : Int) := by omega
  have m2 : (mn : Int) ≤ (ch : Int) := by omega
  have m3 : (c2 : Int) ≤ 9223372036854775807 := by have := hcap.2; unfold maxLen at this; omega
  have hml1 : (sp.take mn).length = mn := by simp; omega
  have hml2 : (hc.take mn).length = mn := by rw [List.length_take, HCL.out]; omega
  have hmn2 : mn ≤ 100 := by omega
  have HBD2 := Lib.hid (show ∀ s ∈ sp, -1000000000 ≤ s.fr ∧ s.fr ≤ 1000000000 from fun s hs => by have := HBD.out s hs; omega)
  have HSMB := Lib.hid (show ∀ s ∈ smallL raw, -1000000000 ≤ s.fr ∧ s.fr ≤ 1000000000 from fun s hs => by
    unfold smallL spsTo at hs
    obtain ⟨i, _, rfl⟩ := List.mem_map.1 hs
    have := tmod_bd ((raw[i]?).getD ⟨0, 0, 0⟩).fr
    unfold smAt smallS
    simp only
    omega)
  have hsml : (smallL raw).length ≤ 100 := by unfold smallL; rw [spsTo_len]; omega
  have HC1 := Lib.hid (fun (hb : List Hm) (W : World) (h : TW w W A0 A2 Ah Bh raw sp hb hc) => small_any W A0 raw c0 h.r hl0)
  have HC2 := Lib.hid (fun (hb : List Hm) (A6 : Option Addr) (c6 : Nat) (W : World) (h : TW w W A0 A2 Ah Bh raw sp hb hc) (h6 : RepS W A6 (smallL raw)) => show Calls Tryd.prog 14 #[.slice A6 (smallL raw).length c6, .slice Ah n ch] W fun e w' => e = .returned (.bool true) ∧ Below W.heap.size W w' from by
    have := alike_any W A6 Ah (smallL raw) hc c6 ch h6 h.h (by omega) (by rw [HCL.out]; omega) HSMB.out HWF.out (tab_below HT.out hW h.bel) (Nat.lt_of_lt_of_le hW h.bel.size)
    rwa [HCL.out] at this)
  have HC3 := Lib.hid (fun (hb : List Hm) (W : World) (h : TW w W A0 A2 Ah Bh raw sp hb hc) => show Calls Tryd.prog 14 #[.slice A2 sp.length c2, .slice Ah n ch] W fun e w' => e = .returned (.bool true) ∧ Below W.heap.size W w' from by
    have := alike_any W A2 Ah sp hc c2 ch h.s h.h (by omega) (by rw [HCL.out]; omega) HBD2.out HWF.out (tab_below HT.out hW h.bel) (Nat.lt_of_lt_of_le hW h.bel.size)
    rwa [HCL.out] at this)
  have HC4 := Lib.hid (fun (hb : List Hm) (hbl : hb.length = sp.length) (hbw : ∀ h ∈ hb, (Lit.int .i64 h.n).wf = true) (W : World) (h : TW w W A0 A2 Ah Bh raw sp hb hc) => show Calls Tryd.prog 14 #[.slice A2 sp.length c2, .slice (some ⟨Bh, 0, none⟩) sp.length sp.length] W fun e w' => e = .returned (.bool true) ∧ Below W.heap.size W w' from by
    have := alike_any W A2 (some ⟨Bh, 0, none⟩) sp hb c2 sp.length h.s (RepH.of_blk h.b) (by omega) (by rw [hbl]; omega) HBD2.out hbw (tab_below HT.out hW h.bel) (Nat.lt_of_lt_of_le hW h.bel.size)
    rwa [hbl] at this)
  have HC5 := Lib.hid (fun (hb : List Hm) (W : World) (h : TW w W A0 A2 Ah Bh raw sp hb hc) => show Calls Tryd.prog 14 #[.slice A2 mn c2, .slice Ah mn ch] W fun e w' => e = .returned (.bool true) ∧ Below W.heap.size W w' from by
    have := alike_any W A2 Ah (sp.take mn) (hc.take mn) c2 ch (h.s.cut mn) (h.h.cut mn) (by omega) (by omega) (fun s hs => HBD2.out s (List.mem_of_mem_take hs)) (fun x hx => HWF.out x (List.mem_of_mem_take hx)) (tab_below HT.out hW h.bel) (Nat.lt_of_lt_of_le hW h.bel.size)
    rwa [hml1, hml2] at this)
  have HC6 := Lib.hid (fun (hb : List Hm) (W : World) (h : TW w W A0 A2 Ah Bh raw sp hb hc) => works_any W (tab_below HT.out hW h.bel) (Nat.lt_of_lt_of_le hW h.bel.size))
  clear hmn e2 hcap hml1 hml2
  generalize smallL raw = sm at *
  have hnz := HNZ.out
  have hc1 := HHhc1.out
  have hc2 := HHhc2.out
  have s1 : (0 < sp.length) = True := eq_true hc1
  have s2 : (0 < n) = False := eq_false (fun h => by have := hnz.1 h; omega)
  have s3 : decide ((sp.length : Int) > 0) = true := decide_eq_true (by omega)
  have s4 : decide ((n : Int) > 0) = false := decide_eq_false (by have := of_eq_false s2; omega)
  clear hnz HNZ
  clear hc1 hc2
  have HNB := Lib.hid (show ∃ hb : List Hm, hb = hs ∧ hb.length = sp.length ∧ ∀ h ∈ hb, (Lit.int .i64 h.n).wf = true from ⟨_, rfl, HLEN.out, fun h hx => WalkArith.wf_i64 (by have := HSO.out h hx; omega)⟩)
  have HTW := Lib.hid (fun m => show TW w (w3.drewN m) A0 A2 Ah Bh raw sp hs hc from ⟨HR0.out.far (below_drewN HB3.out m), HREP.out.far (below_drewN HB23.out m), HBLK.out.drewN m, HCUT.out.far (below_drewN HB3.out m), below_drewN HB3.out m⟩)
  go_wp2_with fail
  obtain ⟨hb, rfl, hbl, hbw⟩ := HNB.out
  clear HR0 HR1 HOK HBD HCUT HCL HWF HB2 HREP HB3 HREP3 HBLK HLEN HSO HB23 HBD2 HSMB HT hmin n0 n1 n2 n3 hBhB hBh2 hspl hl0 hl1 hl3 hsml hmn2
  refine wp_region_any (by kernel_rfl) ?_
  change wpAny _ _ _ _ _ _ _ (World.drew _)
  refine wpAny_take (i := 0) (v := ?_) rfl (by kernel_rfl) (by kernel_rfl) (by kernel_rfl) (fun _ _ _ h => h) (Or.inl ⟨by kernel_rfl, ?_⟩) ?_
  rotate_left
  · intro w'
    go_simp
    with_reducible rfl
  simp only [List.getElem_toArray, List.getElem_cons_zero, Act.put, List.setIfInBounds_toArray, List.set_cons_succ, List.set_cons_zero]
  refine wpAny_take (i := 2) (v := ?_) rfl (by kernel_rfl) (by kernel_rfl) (by kernel_rfl) (fun _ _ _ h => h) (Or.inl ⟨by kernel_rfl, ?_⟩) ?_
  rotate_left
  · intro w'
    go_simp
    with_reducible rfl
  simp only [List.getElem_toArray, List.getElem_cons_zero, List.getElem_cons_succ, Act.put, List.setIfInBounds_toArray, List.set_cons_succ, List.set_cons_zero]
  refine wpAny_ready (rs := [1]) (by kernel_rfl) (by simp) ?_
  refine AllReady.cons rfl (fun K hK => ?_) AllReady.nil
  refine step_callP (by kernel_rfl) 15 #[.slice A0 raw.length c0] (by kernel_rfl) (HC1.out hb _ (HTW.out 1)) ?_
  rintro e w5 ⟨A6, c6, rfl, h6, hb5⟩
  refine ⟨_, rfl, ?_⟩
  have HT5 := Lib.hid ((HTW.out 1).far hb5); have H6 := Lib.hid h6; clear h6 hb5
  refine hK _ _ ?_
  clear hK K
  simp only [List.getElem_toArray, List.getElem_cons_zero, List.getElem_cons_succ, Act.put, List.setIfInBounds_toArray, List.set_cons_succ, List.set_cons_zero]
  refine wpAny_ready (rs := [3]) (by kernel_rfl) (by simp) ?_
  refine AllReady.cons rfl (fun K hK => ?_) AllReady.nil
  refine step_callP (by kernel_rfl) 14 #[.slice A6 sm.length c6, .slice Ah n ch] (by kernel_rfl) (HC2.out hb A6 c6 _ HT5.out H6.out) ?_
  rintro e w6 ⟨rfl, hb6⟩
  refine ⟨_, rfl, ?_⟩
  have HT6 := Lib.hid (HT5.out.far hb6); clear hb6 H6 HT5
  refine hK _ _ ?_
  clear hK K
  simp only [List.getElem_toArray, List.getElem_cons_zero, List.getElem_cons_succ, Act.put, List.setIfInBounds_toArray, List.set_cons_succ, List.set_cons_zero]
  refine wpAny_take (i := 4) (v := ?_) rfl (by kernel_rfl) (by kernel_rfl) (by kernel_rfl) (fun _ _ _ h => h) (Or.inl ⟨by kernel_rfl, ?_⟩) ?_
  rotate_left
  · intro w'
    go_simp
    with_reducible rfl
  simp only [List.getElem_toArray, List.getElem_cons_zero, List.getElem_cons_succ, Act.put, List.setIfInBounds_toArray, List.set_cons_succ, List.set_cons_zero]
  refine wpAny_take (i := 5) (v := ?_) rfl (by kernel_rfl) (by kernel_rfl) (by kernel_rfl) (fun _ _ _ h => h) (Or.inl ⟨by kernel_rfl, ?_⟩) ?_
  rotate_left
  · intro w'
    go_simp
    with_reducible rfl
  simp only [List.getElem_toArray, List.getElem_cons_zero, List.getElem_cons_succ, Act.put, List.setIfInBounds_toArray, List.set_cons_succ, List.set_cons_zero]
  refine wpAny_take (i := 6) (v := ?_) rfl (by kernel_rfl) (by kernel_rfl) (by kernel_rfl) (fun _ _ _ h => h) (Or.inl ⟨by kernel_rfl, ?_⟩) ?_
  rotate_left
  · intro w'
    go_simp
    with_reducible rfl
  simp only [List.getElem_toArray, List.getElem_cons_zero, List.getElem_cons_succ, Act.put, List.setIfInBounds_toArray, List.set_cons_succ, List.set_cons_zero]
  refine wpAny_ready (rs := [7]) (by kernel_rfl) (by simp) ?_
  refine AllReady.cons rfl (fun K hK => ?_) AllReady.nil
  refine step_callP (by kernel_rfl) 14 #[.slice A2 sp.length c2, .slice Ah n ch] (by kernel_rfl) (HC3.out hb _ HT6.out) ?_
  rintro e w7 ⟨rfl, hb6⟩
  refine ⟨_, rfl, ?_⟩
  have HT7 := Lib.hid (HT6.out.far hb6); clear hb6 HT6
  refine hK _ _ ?_
  clear hK K
  simp only [List.getElem_toArray, List.getElem_cons_zero, List.getElem_cons_succ, Act.put, List.setIfInBounds_toArray, List.set_cons_succ, List.set_cons_zero]
  refine wpAny_take (i := 8) (v := ?_) rfl (by kernel_rfl) (by kernel_rfl) (by kernel_rfl) (fun _ _ _ h => h) (Or.inl ⟨by kernel_rfl, ?_⟩) ?_
  rotate_left
  · intro w'
    go_simp
    with_reducible rfl
  simp only [List.getElem_toArray, List.getElem_cons_zero, List.getElem_cons_succ, Act.put, List.setIfInBounds_toArray, List.set_cons_succ, List.set_cons_zero]
  refine wpAny_take (i := 9) (v := ?_) rfl (by kernel_rfl) (by kernel_rfl) (by kernel_rfl) (fun _ _ _ h => h) (Or.inl ⟨by kernel_rfl, ?_⟩) ?_
  rotate_left
  · intro w'
    go_simp
    with_reducible rfl
  simp only [List.getElem_toArray, List.getElem_cons_zero, List.getElem_cons_succ, Act.put, List.setIfInBounds_toArray, List.set_cons_succ, List.set_cons_zero]
  refine wpAny_take (i := 10) (v := ?_) rfl (by kernel_rfl) (by kernel_rfl) (by kernel_rfl) (fun _ _ _ h => h) (Or.inl ⟨by kernel_rfl, ?_⟩) ?_
  rotate_left
  · intro w'
    go_simp
    with_reducible rfl
  simp only [List.getElem_toArray, List.getElem_cons_zero, List.getElem_cons_succ, Act.put, List.setIfInBounds_toArray, List.set_cons_succ, List.set_cons_zero]
  refine wpAny_take (i := 11) (v := ?_) rfl (by kernel_rfl) (by kernel_rfl) (by kernel_rfl) (fun _ _ _ h => h) (Or.inl ⟨by kernel_rfl, ?_⟩) ?_
  rotate_left
  · intro w'
    go_simp
    with_reducible rfl
  simp only [List.getElem_toArray, List.getElem_cons_zero, List.getElem_cons_succ, Act.put, List.setIfInBounds_toArray, List.set_cons_succ, List.set_cons_zero]
  refine wpAny_ready (rs := [12]) (by kernel_rfl) (by simp) ?_
  refine AllReady.cons rfl (fun K hK => ?_) AllReady.nil
  refine step_callP (by kernel_rfl) 14 #[.slice A2 sp.length c2, .slice (some ⟨Bh, 0, none⟩) sp.length sp.length] (by kernel_rfl) (HC4.out hb hbl hbw _ HT7.out) ?_
  rintro e w8 ⟨rfl, hb6⟩
  refine ⟨_, rfl, ?_⟩
  have HT8 := Lib.hid (HT7.out.far hb6); clear hb6 HT7
  refine hK _ _ ?_
  clear hK K
  simp only [List.getElem_toArray, List.getElem_cons_zero, List.getElem_cons_succ, Act.put, List.setIfInBounds_toArray, List.set_cons_succ, List.set_cons_zero]
  refine wpAny_take (i := 13) (v := ?_) rfl (by kernel_rfl) (by kernel_rfl) (by kernel_rfl) (fun _ _ _ h => h) (Or.inl ⟨by kernel_rfl, ?_⟩) ?_
  rotate_left
  · intro w'
    go_simp
    with_reducible rfl
  simp only [List.getElem_toArray, List.getElem_cons_zero, List.getElem_cons_succ, Act.put, List.setIfInBounds_toArray, List.set_cons_succ, List.set_cons_zero]
  refine wpAny_take (i := 14) (v := ?_) rfl (by kernel_rfl) (by kernel_rfl) (by kernel_rfl) (fun _ _ _ h => h) (Or.inl ⟨by kernel_rfl, ?_⟩) ?_
  rotate_left
  · intro w'
    go_simp
    with_reducible rfl
  simp only [List.getElem_toArray, List.getElem_cons_zero, List.getElem_cons_succ, Act.put, List.setIfInBounds_toArray, List.set_cons_succ, List.set_cons_zero]
  refine wpAny_take (i := 15) (v := ?_) rfl (by kernel_rfl) (by kernel_rfl) (by kernel_rfl) (fun _ _ _ h => h) (Or.inl ⟨by kernel_rfl, ?_⟩) ?_
  rotate_left
  · intro w'
    go_simp
    with_reducible rfl
  simp only [List.getElem_toArray, List.getElem_cons_zero, List.getElem_cons_succ, Act.put, List.setIfInBounds_toArray, List.set_cons_succ, List.set_cons_zero]
  refine wpAny_take (i := 16) (v := ?_) rfl (by kernel_rfl) (by kernel_rfl) (by kernel_rfl) (fun _ _ _ h => h) (Or.inl ⟨by kernel_rfl, ?_⟩) ?_
  rotate_left
  · intro w'
    go_simp
    with_reducible rfl
  simp only [List.getElem_toArray, List.getElem_cons_zero, List.getElem_cons_succ, Act.put, List.setIfInBounds_toArray, List.set_cons_succ, List.set_cons_zero]
  refine wpAny_take (i := 17) (v := ?_) rfl (by kernel_rfl) (by kernel_rfl) (by kernel_rfl) (fun _ _ _ h => h) (Or.inl ⟨by kernel_rfl, ?_⟩) ?_
  rotate_left
  · intro w'
    go_simp
    with_reducible rfl
  simp only [List.getElem_toArray, List.getElem_cons_zero, List.getElem_cons_succ, Act.put, List.setIfInBounds_toArray, List.set_cons_succ, List.set_cons_zero]
  refine wpAny_take (i := 18) (v := ?_) rfl (by kernel_rfl) (by kernel_rfl) (by kernel_rfl) (fun _ _ _ h => h) (Or.inl ⟨by kernel_rfl, ?_⟩) ?_
  rotate_left
  · intro w'
    go_simp
    with_reducible rfl
  simp only [List.getElem_toArray, List.getElem_cons_zero, List.getElem_cons_succ, Act.put, List.setIfInBounds_toArray, List.set_cons_succ, List.set_cons_zero]
  refine wpAny_take (i := 19) (v := ?_) rfl (by kernel_rfl) (by kernel_rfl) (by kernel_rfl) (fun _ _ _ h => h) (Or.inl ⟨by kernel_rfl, ?_⟩) ?_
  rotate_left
  · intro w'
    go_simp
    with_reducible rfl
  simp only [List.getElem_toArray, List.getElem_cons_zero, List.getElem_cons_succ, Act.put, List.setIfInBounds_toArray, List.set_cons_succ, List.set_cons_zero]
  refine wpAny_take (i := 20) (v := ?_) rfl (by kernel_rfl) (by kernel_rfl) (by kernel_rfl) (fun _ _ _ h => h) (Or.inl ⟨by kernel_rfl, ?_⟩) ?_
  rotate_left
  · intro w'
    go_simp
    with_reducible rfl
  simp only [List.getElem_toArray, List.getElem_cons_zero, List.getElem_cons_succ, Act.put, List.setIfInBounds_toArray, List.set_cons_succ, List.set_cons_zero]
  refine wpAny_take (i := 21) (v := ?_) rfl (by kernel_rfl) (by kernel_rfl) (by kernel_rfl) (fun _ _ _ h => h) (Or.inl ⟨by kernel_rfl, ?_⟩) ?_
  rotate_left
  · intro w'
    go_simp
    with_reducible rfl
  simp only [List.getElem_toArray, List.getElem_cons_zero, List.getElem_cons_succ, Act.put, List.setIfInBounds_toArray, List.set_cons_succ, List.set_cons_zero]
  refine wpAny_take (i := 22) (v := ?_) rfl (by kernel_rfl) (by kernel_rfl) (by kernel_rfl) (fun _ _ _ h => h) (Or.inl ⟨by kernel_rfl, ?_⟩) ?_
  rotate_left
  · intro w'
    go_simp
    with_reducible rfl
  simp only [List.getElem_toArray, List.getElem_cons_zero, List.getElem_cons_succ, Act.put, List.setIfInBounds_toArray, List.set_cons_succ, List.set_cons_zero]
  refine wpAny_take (i := 23) (v := ?_) rfl (by kernel_rfl) (by kernel_rfl) (by kernel_rfl) (fun _ _ _ h => h) (Or.inl ⟨by kernel_rfl, ?_⟩) ?_
  rotate_left
  · intro w'
    go_simp
    with_reducible rfl
  simp only [List.getElem_toArray, List.getElem_cons_zero, List.getElem_cons_succ, Act.put, List.setIfInBounds_toArray, List.set_cons_succ, List.set_cons_zero]
  refine wpAny_take (i := 24) (v := ?_) rfl (by kernel_rfl) (by kernel_rfl) (by kernel_rfl) (fun _ _ _ h => h) (Or.inl ⟨by kernel_rfl, ?_⟩) ?_
  rotate_left
  · intro w'
    go_simp
    with_reducible rfl
  simp only [List.getElem_toArray, List.getElem_cons_zero, List.getElem_cons_succ, Act.put, List.setIfInBounds_toArray, List.set_cons_succ, List.set_cons_zero]
  refine wpAny_take (i := 25) (v := ?_) rfl (by kernel_rfl) (by kernel_rfl) (by kernel_rfl) (fun _ _ _ h => h) (Or.inl ⟨by kernel_rfl, ?_⟩) ?_
  rotate_left
  · intro w'
    go_simp
    with_reducible rfl
  simp only [List.getElem_toArray, List.getElem_cons_zero, List.getElem_cons_succ, Act.put, List.setIfInBounds_toArray, List.set_cons_succ, List.set_cons_zero]
  refine wpAny_take (i := 26) (v := ?_) rfl (by kernel_rfl) (by kernel_rfl) (by kernel_rfl) (fun _ _ _ h => h) (Or.inl ⟨by kernel_rfl, ?_⟩) ?_
  rotate_left
  · intro w'
    go_simp
    with_reducible rfl
  simp only [List.getElem_toArray, List.getElem_cons_zero, List.getElem_cons_succ, Act.put, List.setIfInBounds_toArray, List.set_cons_succ, List.set_cons_zero]
  refine wpAny_take (i := 27) (v := ?_) rfl (by kernel_rfl) (by kernel_rfl) (by kernel_rfl) (fun _ _ _ h => h) (Or.inl ⟨by kernel_rfl, ?_⟩) ?_
  rotate_left
  · intro w'
    go_simp
    with_reducible rfl
  simp only [List.getElem_toArray, List.getElem_cons_zero, List.getElem_cons_succ, Act.put, List.setIfInBounds_toArray, List.set_cons_succ, List.set_cons_zero]
  refine wpAny_take (i := 28) (v := ?_) rfl (by kernel_rfl) (by kernel_rfl) (by kernel_rfl) (fun _ _ _ h => h) (Or.inl ⟨by kernel_rfl, ?_⟩) ?_
  rotate_left
  · intro w'
    go_simp
    with_reducible rfl
  simp only [List.getElem_toArray, List.getElem_cons_zero, List.getElem_cons_succ, Act.put, List.setIfInBounds_toArray, List.set_cons_succ, List.set_cons_zero]
  refine wpAny_ready (rs := [29]) (by kernel_rfl) (by simp) ?_
  refine AllReady.cons rfl (fun K hK => ?_) AllReady.nil
  refine step_callP (by kernel_rfl) 14 #[.slice A2 mn c2, .slice Ah mn ch] (by kernel_rfl) (HC5.out hb _ HT8.out) ?_
  rintro e w9 ⟨rfl, hb6⟩
  refine ⟨_, rfl, ?_⟩
  have HT9 := Lib.hid (HT8.out.far hb6); clear hb6 HT8
  refine hK _ _ ?_
  clear hK K
  simp only [List.getElem_toArray, List.getElem_cons_zero, List.getElem_cons_succ, Act.put, List.setIfInBounds_toArray, List.set_cons_succ, List.set_cons_zero]
  refine wpAny_take (i := 30) (v := ?_) rfl (by kernel_rfl) (by kernel_rfl) (by kernel_rfl) (fun _ _ _ h => h) (Or.inl ⟨by kernel_rfl, ?_⟩) ?_
  rotate_left
  · intro w'
    go_simp
    with_reducible rfl
  simp only [List.getElem_toArray, List.getElem_cons_zero, List.getElem_cons_succ, Act.put, List.setIfInBounds_toArray, List.set_cons_succ, List.set_cons_zero]
  refine wpAny_take (i := 31) (v := ?_) rfl (by kernel_rfl) (by kernel_rfl) (by kernel_rfl) (fun _ _ _ h => h) (Or.inl ⟨by kernel_rfl, ?_⟩) ?_
  rotate_left
  · intro w'
    go_simp
    with_reducible rfl
  simp only [List.getElem_toArray, List.getElem_cons_zero, List.getElem_cons_succ, Act.put, List.setIfInBounds_toArray, List.set_cons_succ, List.set_cons_zero]
  refine wpAny_ready (rs := [32]) (by kernel_rfl) (by simp) ?_
  refine AllReady.cons rfl (fun K hK => ?_) AllReady.nil
  refine step_callP (by kernel_rfl) 8 #[] (by kernel_rfl) (HC6.out hb _ HT9.out) ?_
  rintro e w10 ⟨rfl, hb6⟩
  refine ⟨_, rfl, ?_⟩
  have HT10 := Lib.hid (HT9.out.far hb6); clear hb6 HT9
  refine hK _ _ ?_
  clear hK K
  simp only [List.getElem_toArray, List.getElem_cons_zero, List.getElem_cons_succ, Act.put, List.setIfInBounds_toArray, List.set_cons_succ, List.set_cons_zero]
  refine wpAny_take (i := 33) (v := ?_) rfl (by kernel_rfl) (by kernel_rfl) (by kernel_rfl) (fun _ _ _ h => h) (Or.inl ⟨by kernel_rfl, ?_⟩) ?_
  rotate_left
  · intro w'
    go_simp
    with_reducible rfl
  simp only [List.getElem_toArray, List.getElem_cons_zero, List.getElem_cons_succ, Act.put, List.setIfInBounds_toArray, List.set_cons_succ, List.set_cons_zero]
  refine wpAny_take (i := 34) (v := ?_) rfl (by kernel_rfl) (by kernel_rfl) (by kernel_rfl) (fun _ _ _ h => h) (Or.inl ⟨by kernel_rfl, ?_⟩) ?_
  rotate_left
  · intro w'
    go_simp
    with_reducible rfl
  simp only [List.getElem_toArray, List.getElem_cons_zero, List.getElem_cons_succ, Act.put, List.setIfInBounds_toArray, List.set_cons_succ, List.set_cons_zero]
  refine wpAny_done (by kernel_rfl) ?_ _
  go_wp2_with fail
  go_ret
  exact ⟨rfl, HT10.out.bel⟩
set_option maxRecDepth 100000 in
set_option maxHeartbeats 20000000 in
theorem allocTells_s3 (w : World) (A0 A1 Ah : Option Addr) (raw : List Sp) (l : List P2) (hm : List Hm) (c0 c1 ch : Nat) (hr0 : RepS w A0 raw) (hl0 : raw.length ≤ 9223372036854775807) (hr1 : RepP2 w A1 l) (hok : ∀ x ∈ l, OkP2 x) (hl1 : l.length ≤ 9223372036854775807)
    (hh : RepH w Ah hm) (hl2 : hm.length ≤ ch) (hl3 : ch ≤ 9223372036854775807) (hwf : ∀ h ∈ hm, (Lit.int .i64 h.n).wf = true) (hT : TabAt 1 Lib.deBruijn64tab w) (hW : 1 < w.heap.size) (hc1 : (spansL l).length = 0) :
    Calls Tryd.prog 5 #[.slice A0 raw.length c0, .slice A1 l.length c1, .slice Ah hm.length ch] w fun e w' => e = .returned (.bool true) ∧ Below w.heap.size w w' := by
  have HHhc1 := Lib.hid hc1
  clear hc1
  have hspl : (spansL l).length ≤ 100 := by unfold spansL; rw [spsTo_len]; omega
  have hbd : ∀ s ∈ spansL l, 0 ≤ s.fr ∧ s.fr ≤ 255 := fun s hs => by
    obtain ⟨i, hi⟩ := List.getElem?_of_mem hs
    have hil := (List.getElem?_eq_some_iff.1 hi).1
    unfold spansL at hi hil
    rw [spsTo_len] at hil
    rw [spsTo_get hil] at hi
    have : spanAt l i = s := by simpa using hi
    subst this
    have hg := List.getElem?_eq_getElem (show i < l.length by omega)
    have := hok _ (List.mem_of_getElem? hg)
    unfold spanAt
    rw [p2At_of hg]
    exact ⟨this.1, this.2.1⟩
  obtain ⟨n, hn⟩ : ∃ n, n = min hm.length 100 := ⟨_, rfl⟩
  have hmin := fun ats ty => min_lit ats ty ((hm.length : Nat) : Int) 100
  have e1 : min ((hm.length : Nat) : Int) 100 = (n : Int) := by omega
  rw [e1] at hmin
  have HCUT := Lib.hid (hh.cut n)
  have hcl : (hm.take n).length = n := by simp; omega
  have HCL := Lib.hid hcl
  have HWF := Lib.hid (show ∀ h ∈ hm.take n, (Lit.int .i64 h.n).wf = true from fun h hx => hwf h (List.mem_of_mem_take hx))
  have n0 : (0 : Int) ≤ (n : Int) := by omega
  have n1 : (n : Int) ≤ (ch : Int) := by omega
  have n2 : n ≤ 100 := by omega
  have n3 : (ch : Int) ≤ 9223372036854775807 := by omega
  have HR0 := Lib.hid hr0
  have HR1 := Lib.hid hr1
  have HOK := Lib.hid hok
  have HT := Lib.hid hT
  have HBD := Lib.hid hbd
  have HSPL := Lib.hid (spans_law2 w A1 l c1 hr1 hok hl1)
  clear hr0 hr1 hok hT hbd hh hwf hl2 e1 hcl hn
  generalize hm.take n = hc at *
  go_enter Tryd.func5, Tryd.ntmps5
  go_wp2_with fail
  refine HSPL.out.mono ?_
  rintro e w2 ⟨A2, c2, rfl, hrep, hcap, hb2⟩
  generalize spansL l = sp at *
  have HB2 := Lib.hid hb2
  have HREP := Lib.hid hrep
  have HRL := Lib.hid (rAlloc_any w2 A2 sp c2 hrep (by omega) (fun s hs => by have := HBD.out s hs; omega))
  clear hrep hb2 HSPL
  go_wp2_with fail
  refine HRL.out.mono ?_
  rintro e w3 ⟨order, Bh, ho, hBh, rfl, hblk, hlen, hokh, hb3⟩
  have HB3 := Lib.hid (HB2.out.trans (hb3.mono HB2.out.size))
  have HREP3 := Lib.hid (HREP.out.far hb3)
  have HBLK := Lib.hid hblk
  have HLEN := Lib.hid hlen
  have HSO := Lib.hid hokh
  have hBhB : w.heap.size ≤ Bh := by have := HB2.out.size; omega
  have hBh2 : w2.heap.size ≤ Bh := hBh
  have HB23 := Lib.hid hb3
  clear ho hblk hlen hokh hb3 HRL hBh
  generalize regsF (allocF sp order).hs = rg at *
  generalize (allocF sp order).sl = sl at *
  generalize (allocF sp order).hs = hs at *
  obtain ⟨mn, hmn⟩ : ∃ mn, mn = min sp.length n := ⟨_, rfl⟩
  have hmin2 := fun ats ty => min_lit ats ty ((sp.length : Nat) : Int) (n : Int)
  have e2 : min ((sp.length : Nat) : Int) (n : Int) = (mn : Int) := by omega
  rw [e2] at hmin2
  have m0 : (0 : Int) ≤ (mn : Int) := by omega
  have m1 : (mn : Int) ≤ (c2 : Int) := by omega
  have m2 : (mn : Int) ≤ (ch : Int) := by omega
  have m3 : (c2 : Int) ≤ 9223372036854775807 := by have := hcap.2; unfold maxLen at this; omega
  have hml1 : (sp.take mn).length = mn := by simp; omega
  have hml2 : (hc.take mn).length = mn := by rw [List.length_take, HCL.out]; omega
  have hmn2 : mn ≤ 100 := by omega
  have HBD2 := Lib.hid (show ∀ s ∈ sp, -1000000000 ≤ s.fr ∧ s.fr ≤ 1000000000 from fun s hs => by have := HBD.out s hs; omega)
  have HSMB := Lib.hid (show ∀ s ∈ smallL raw, -1000000000 ≤ s.fr ∧ s.fr ≤ 1000000000 from fun s hs => by
    unfold smallL spsTo at hs
    obtain ⟨i, _, rfl⟩ := List.mem_map.1 hs
    have := tmod_bd ((raw[i]?).getD ⟨0, 0, 0⟩).fr
    unfold smAt smallS
    simp only
    omega)
  have hsml : (smallL raw).length ≤ 100 := by unfold smallL; rw [spsTo_len]; omega
  have HC1 := Lib.hid (fun (hb : List Hm) (W : World) (h : TW w W A0 A2 Ah Bh raw sp hb hc) => small_any W A0 raw c0 h.r hl0)
  have HC2 := Lib.hid (fun (hb : List Hm) (A6 : Option Addr) (c6 : Nat) (W : World) (h : TW w W A0 A2 Ah Bh raw sp hb hc) (h6 : RepS W A6 (smallL raw)) => show Calls Tryd.prog 14 #[.slice A6 (smallL raw).length c6, .slice Ah n ch] W fun e w' => e = .returned (.bool true) ∧ Below W.heap.size W w' from by
    have := alike_any W A6 Ah (smallL raw) hc c6 ch h6 h.h (by omega) (by rw [HCL.out]; omega) HSMB.out HWF.out (tab_below HT.out hW h.bel) (Nat.lt_of_lt_of_le hW h.bel.size)
    rwa [HCL.out] at this)
  have HC3 := Lib.hid (fun (hb : List Hm) (W : World) (h : TW w W A0 A2 Ah Bh raw sp hb hc) => show Calls Tryd.prog 14 #[.slice A2 sp.length c2, .slice Ah n ch] W fun e w' => e = .returned (.bool true) ∧ Below W.heap.size W w' from by
    have := alike_any W A2 Ah sp hc c2 ch h.s h.h (by omega) (by rw [HCL.out]; omega) HBD2.out HWF.out (tab_below HT.out hW h.bel) (Nat.lt_of_lt_of_le hW h.bel.size)
    rwa [HCL.out] at this)
  have HC4 := Lib.hid (fun (hb : List Hm) (hbl : hb.length = sp.length) (hbw : ∀ h ∈ hb, (Lit.int .i64 h.n).wf = true) (W : World) (h : TW w W A0 A2 Ah Bh raw sp hb hc) => show Calls Tryd.prog 14 #[.slice A2 sp.length c2, .slice (some ⟨Bh, 0, none⟩) sp.length sp.length] W fun e w' => e = .returned (.bool true) ∧ Below W.heap.size W w' from by
    have := alike_any W A2 (some ⟨Bh, 0, none⟩) sp hb c2 sp.length h.s (RepH.of_blk h.b) (by omega) (by rw [hbl]; omega) HBD2.out hbw (tab_below HT.out hW h.bel) (Nat.lt_of_lt_of_le hW h.bel.size)
    rwa [hbl] at this)
  have HC5 := Lib.hid (fun (hb : List Hm) (W : World) (h : TW w W A0 A2 Ah Bh raw sp hb hc) => show Calls Tryd.prog 14 #[.slice A2 mn c2, .slice Ah mn ch] W fun e w' => e = .returned (.bool true) ∧ Below W.heap.size W w' from by
    have := alike_any W A2 Ah (sp.take mn) (hc.take mn) c2 ch (h.s.cut mn) (h.h.cut mn) (by omega) (by omega) (fun s hs => HBD2.out s (List.mem_of_mem_take hs)) (fun x hx => HWF.out x (List.mem_of_mem_take hx)) (tab_below HT.out hW h.bel) (Nat.lt_of_lt_of_le hW h.bel.size)
    rwa [hml1, hml2] at this)
  have HC6 := Lib.hid (fun (hb : List Hm) (W : World) (h : TW w W A0 A2 Ah Bh raw sp hb hc) => works_any W (tab_below HT.out hW h.bel) (Nat.lt_of_lt_of_le hW h.bel.size))
  clear hmn e2 hcap hml1 hml2
  generalize smallL raw = sm at *
  have hc1 := HHhc1.out
  have s1 : (0 < sp.length) = False := eq_false (by omega)
  have s3 : decide ((sp.length : Int) > 0) = false := decide_eq_false (by omega)
  clear hc1
  have HNB := Lib.hid (show ∃ hb : List Hm, hb = hs ∧ hb.length = sp.length ∧ ∀ h ∈ hb, (Lit.int .i64 h.n).wf = true from ⟨_, rfl, HLEN.out, fun h hx => WalkArith.wf_i64 (by have := HSO.out h hx; omega)⟩)
  have HTW := Lib.hid (fun m => show TW w (w3.drewN m) A0 A2 Ah Bh raw sp hs hc from ⟨HR0.out.far (below_drewN HB3.out m), HREP.out.far (below_drewN HB23.out m), HBLK.out.drewN m, HCUT.out.far (below_drewN HB3.out m), below_drewN HB3.out m⟩)
  go_wp2_with fail
  obtain ⟨hb, rfl, hbl, hbw⟩ := HNB.out
  clear HR0 HR1 HOK HBD HCUT HCL HWF HB2 HREP HB3 HREP3 HBLK HLEN HSO HB23 HBD2 HSMB HT hmin n0 n1 n2 n3 hBhB hBh2 hspl hl0 hl1 hl3 hsml hmn2
  refine wp_region_any (by kernel_rfl) ?_
  change wpAny _ _ _ _ _ _ _ (World.drew _)
  refine wpAny_take (i := 0) (v := ?_) rfl (by kernel_rfl) (by kernel_rfl) (by kernel_rfl) (fun _ _ _ h => h) (Or.inl ⟨by kernel_rfl, ?_⟩) ?_
  rotate_left
  · intro w'
    go_simp
    with_reducible rfl
  simp only [List.getElem_toArray, List.getElem_cons_zero, Act.put, List.setIfInBounds_toArray, List.set_cons_succ, List.set_cons_zero]
  refine wpAny_take (i := 2) (v := ?_) rfl (by kernel_rfl) (by kernel_rfl) (by kernel_rfl) (fun _ _ _ h => h) (Or.inl ⟨by kernel_rfl, ?_⟩) ?_
  rotate_left
  · intro w'
    go_simp
    with_reducible rfl
  simp only [List.getElem_toArray, List.getElem_cons_zero, List.getElem_cons_succ, Act.put, List.setIfInBounds_toArray, List.set_cons_succ, List.set_cons_zero]
  refine wpAny_ready (rs := [1]) (by kernel_rfl) (by simp) ?_
  refine AllReady.cons rfl (fun K hK => ?_) AllReady.nil
  refine step_callP (by kernel_rfl) 15 #[.slice A0 raw.length c0] (by kernel_rfl) (HC1.out hb _ (HTW.out 1)) ?_
  rintro e w5 ⟨A6, c6, rfl, h6, hb5⟩
  refine ⟨_, rfl, ?_⟩
  have HT5 := Lib.hid ((HTW.out 1).far hb5); have H6 := Lib.hid h6; clear h6 hb5
  refine hK _ _ ?_
  clear hK K
  simp only [List.getElem_toArray, List.getElem_cons_zero, List.getElem_cons_succ, Act.put, List.setIfInBounds_toArray, List.set_cons_succ, List.set_cons_zero]
  refine wpAny_ready (rs := [3]) (by kernel_rfl) (by simp) ?_
  refine AllReady.cons rfl (fun K hK => ?_) AllReady.nil
  refine step_callP (by kernel_rfl) 14 #[.slice A6 sm.length c6, .slice Ah n ch] (by kernel_rfl) (HC2.out hb A6 c6 _ HT5.out H6.out) ?_
  rintro e w6 ⟨rfl, hb6⟩
  refine ⟨_, rfl, ?_⟩
  have HT6 := Lib.hid (HT5.out.far hb6); clear hb6 H6 HT5
  refine hK _ _ ?_
  clear hK K
  simp only [List.getElem_toArray, List.getElem_cons_zero, List.getElem_cons_succ, Act.put, List.setIfInBounds_toArray, List.set_cons_succ, List.set_cons_zero]
  refine wpAny_take (i := 4) (v := ?_) rfl (by kernel_rfl) (by kernel_rfl) (by kernel_rfl) (fun _ _ _ h => h) (Or.inl ⟨by kernel_rfl, ?_⟩) ?_
  rotate_left
  · intro w'
    go_simp
    with_reducible rfl
  simp only [List.getElem_toArray, List.getElem_cons_zero, List.getElem_cons_succ, Act.put, List.setIfInBounds_toArray, List.set_cons_succ, List.set_cons_zero]
  refine wpAny_take (i := 5) (v := ?_) rfl (by kernel_rfl) (by kernel_rfl) (by kernel_rfl) (fun _ _ _ h => h) (Or.inl ⟨by kernel_rfl, ?_⟩) ?_
  rotate_left
  · intro w'
    go_simp
    with_reducible rfl
  simp only [List.getElem_toArray, List.getElem_cons_zero, List.getElem_cons_succ, Act.put, List.setIfInBounds_toArray, List.set_cons_succ, List.set_cons_zero]
  refine wpAny_take (i := 6) (v := ?_) rfl (by kernel_rfl) (by kernel_rfl) (by kernel_rfl) (fun _ _ _ h => h) (Or.inl ⟨by kernel_rfl, ?_⟩) ?_
  rotate_left
  · intro w'
    go_simp
    with_reducible rfl
  simp only [List.getElem_toArray, List.getElem_cons_zero, List.getElem_cons_succ, Act.put, List.setIfInBounds_toArray, List.set_cons_succ, List.set_cons_zero]
  refine wpAny_ready (rs := [7]) (by kernel_rfl) (by simp) ?_
  refine AllReady.cons rfl (fun K hK => ?_) AllReady.nil
  refine step_callP (by kernel_rfl) 14 #[.slice A2 sp.length c2, .slice Ah n ch] (by kernel_rfl) (HC3.out hb _ HT6.out) ?_
  rintro e w7 ⟨rfl, hb6⟩
  refine ⟨_, rfl, ?_⟩
  have HT7 := Lib.hid (HT6.out.far hb6); clear hb6 HT6
  refine hK _ _ ?_
  clear hK K
  simp only [List.getElem_toArray, List.getElem_cons_zero, List.getElem_cons_succ, Act.put, List.setIfInBounds_toArray, List.set_cons_succ, List.set_cons_zero]
  refine wpAny_take (i := 8) (v := ?_) rfl (by kernel_rfl) (by kernel_rfl) (by kernel_rfl) (fun _ _ _ h => h) (Or.inl ⟨by kernel_rfl, ?_⟩) ?_
  rotate_left
  · intro w'
    go_simp
    with_reducible rfl
  simp only [List.getElem_toArray, List.getElem_cons_zero, List.getElem_cons_succ, Act.put, List.setIfInBounds_toArray, List.set_cons_succ, List.set_cons_zero]
  refine wpAny_take (i := 9) (v := ?_) rfl (by kernel_rfl) (by kernel_rfl) (by kernel_rfl) (fun _ _ _ h => h) (Or.inl ⟨by kernel_rfl, ?_⟩) ?_
  rotate_left
  · intro w'
    go_simp
    with_reducible rfl
  simp only [List.getElem_toArray, List.getElem_cons_zero, List.getElem_cons_succ, Act.put, List.setIfInBounds_toArray, List.set_cons_succ, List.set_cons_zero]
  refine wpAny_take (i := 10) (v := ?_) rfl (by kernel_rfl) (by kernel_rfl) (by kernel_rfl) (fun _ _ _ h => h) (Or.inl ⟨by kernel_rfl, ?_⟩) ?_
  rotate_left
  · intro w'
    go_simp
    with_reducible rfl
  simp only [List.getElem_toArray, List.getElem_cons_zero, List.getElem_cons_succ, Act.put, List.setIfInBounds_toArray, List.set_cons_succ, List.set_cons_zero]
  refine wpAny_take (i := 11) (v := ?_) rfl (by kernel_rfl) (by kernel_rfl) (by kernel_rfl) (fun _ _ _ h => h) (Or.inl ⟨by kernel_rfl, ?_⟩) ?_
  rotate_left
  · intro w'
    go_simp
    with_reducible rfl
  simp only [List.getElem_toArray, List.getElem_cons_zero, List.getElem_cons_succ, Act.put, List.setIfInBounds_toArray, List.set_cons_succ, List.set_cons_zero]
  refine wpAny_ready (rs := [12]) (by kernel_rfl) (by simp) ?_
  refine AllReady.cons rfl (fun K hK => ?_) AllReady.nil
  refine step_callP (by kernel_rfl) 14 #[.slice A2 sp.length c2, .slice (some ⟨Bh, 0, none⟩) sp.length sp.length] (by kernel_rfl) (HC4.out hb hbl hbw _ HT7.out) ?_
  rintro e w8 ⟨rfl, hb6⟩
  refine ⟨_, rfl, ?_⟩
  have HT8 := Lib.hid (HT7.out.far hb6); clear hb6 HT7
  refine hK _ _ ?_
  clear hK K
  simp only [List.getElem_toArray, List.getElem_cons_zero, List.getElem_cons_succ, Act.put, List.setIfInBounds_toArray, List.set_cons_succ, List.set_cons_zero]
  refine wpAny_take (i := 13) (v := ?_) rfl (by kernel_rfl) (by kernel_rfl) (by kernel_rfl) (fun _ _ _ h => h) (Or.inl ⟨by kernel_rfl, ?_⟩) ?_
  rotate_left
  · intro w'
    go_simp
    with_reducible rfl
  simp only [List.getElem_toArray, List.getElem_cons_zero, List.getElem_cons_succ, Act.put, List.setIfInBounds_toArray, List.set_cons_succ, List.set_cons_zero]
  refine wpAny_take (i := 14) (v := ?_) rfl (by kernel_rfl) (by kernel_rfl) (by kernel_rfl) (fun _ _ _ h => h) (Or.inl ⟨by kernel_rfl, ?_⟩) ?_
  rotate_left
  · intro w'
    go_simp
    with_reducible rfl
  simp only [List.getElem_toArray, List.getElem_cons_zero, List.getElem_cons_succ, Act.put, List.setIfInBounds_toArray, List.set_cons_succ, List.set_cons_zero]
  refine wpAny_take (i := 15) (v := ?_) rfl (by kernel_rfl) (by kernel_rfl) (by kernel_rfl) (fun _ _ _ h => h) (Or.inl ⟨by kernel_rfl, ?_⟩) ?_
  rotate_left
  · intro w'
    go_simp
    with_reducible rfl
  simp only [List.getElem_toArray, List.getElem_cons_zero, List.getElem_cons_succ, Act.put, List.setIfInBounds_toArray, List.set_cons_succ, List.set_cons_zero]
  refine wpAny_take (i := 16) (v := ?_) rfl (by kernel_rfl) (by kernel_rfl) (by kernel_rfl) (fun _ _ _ h => h) (Or.inl ⟨by kernel_rfl, ?_⟩) ?_
  rotate_left
  · intro w'
    go_simp
    with_reducible rfl
  simp only [List.getElem_toArray, List.getElem_cons_zero, List.getElem_cons_succ, Act.put, List.setIfInBounds_toArray, List.set_cons_succ, List.set_cons_zero]
  refine wpAny_take (i := 17) (v := ?_) rfl (by kernel_rfl) (by kernel_rfl) (by kernel_rfl) (fun _ _ _ h => h) (Or.inl ⟨by kernel_rfl, ?_⟩) ?_
  rotate_left
  · intro w'
    go_simp
    with_reducible rfl
  simp only [List.getElem_toArray, List.getElem_cons_zero, List.getElem_cons_succ, Act.put, List.setIfInBounds_toArray, List.set_cons_succ, List.set_cons_zero]
  refine wpAny_take (i := 18) (v := ?_) rfl (by kernel_rfl) (by kernel_rfl) (by kernel_rfl) (fun _ _ _ h => h) (Or.inl ⟨by kernel_rfl, ?_⟩) ?_
  rotate_left
  · intro w'
    go_simp
    with_reducible rfl
  simp only [List.getElem_toArray, List.getElem_cons_zero, List.getElem_cons_succ, Act.put, List.setIfInBounds_toArray, List.set_cons_succ, List.set_cons_zero]
  refine wpAny_take (i := 19) (v := ?_) rfl (by kernel_rfl) (by kernel_rfl) (by kernel_rfl) (fun _ _ _ h => h) (Or.inl ⟨by kernel_rfl, ?_⟩) ?_
  rotate_left
  · intro w'
    go_simp
    with_reducible rfl
  simp only [List.getElem_toArray, List.getElem_cons_zero, List.getElem_cons_succ, Act.put, List.setIfInBounds_toArray, List.set_cons_succ, List.set_cons_zero]
  refine wpAny_take (i := 20) (v := ?_) rfl (by kernel_rfl) (by kernel_rfl) (by kernel_rfl) (fun _ _ _ h => h) (Or.inl ⟨by kernel_rfl, ?_⟩) ?_
  rotate_left
  · intro w'
    go_simp
    with_reducible rfl
  simp only [List.getElem_toArray, List.getElem_cons_zero, List.getElem_cons_succ, Act.put, List.setIfInBounds_toArray, List.set_cons_succ, List.set_cons_zero]
  refine wpAny_take (i := 21) (v := ?_) rfl (by kernel_rfl) (by kernel_rfl) (by kernel_rfl) (fun _ _ _ h => h) (Or.inl ⟨by kernel_rfl, ?_⟩) ?_
  rotate_left
  · intro w'
    go_simp
    with_reducible rfl
  simp only [List.getElem_toArray, List.getElem_cons_zero, List.getElem_cons_succ, Act.put, List.setIfInBounds_toArray, List.set_cons_succ, List.set_cons_zero]
  refine wpAny_take (i := 22) (v := ?_) rfl (by kernel_rfl) (by kernel_rfl) (by kernel_rfl) (fun _ _ _ h => h) (Or.inl ⟨by kernel_rfl, ?_⟩) ?_
  rotate_left
  · intro w'
    go_simp
    with_reducible rfl
  simp only [List.getElem_toArray, List.getElem_cons_zero, List.getElem_cons_succ, Act.put, List.setIfInBounds_toArray, List.set_cons_succ, List.set_cons_zero]
  refine wpAny_take (i := 23) (v := ?_) rfl (by kernel_rfl) (by kernel_rfl) (by kernel_rfl) (fun _ _ _ h => h) (Or.inl ⟨by kernel_rfl, ?_⟩) ?_
  rotate_left
  · intro w'
    go_simp
    with_reducible rfl
  simp only [List.getElem_toArray, List.getElem_cons_zero, List.getElem_cons_succ, Act.put, List.setIfInBounds_toArray, List.set_cons_succ, List.set_cons_zero]
  refine wpAny_take (i := 24) (v := ?_) rfl (by kernel_rfl) (by kernel_rfl) (by kernel_rfl) (fun _ _ _ h => h) (Or.inl ⟨by kernel_rfl, ?_⟩) ?_
  rotate_left
  · intro w'
    go_simp
    with_reducible rfl
  simp only [List.getElem_toArray, List.getElem_cons_zero, List.getElem_cons_succ, Act.put, List.setIfInBounds_toArray, List.set_cons_succ, List.set_cons_zero]
  refine wpAny_take (i := 25) (v := ?_) rfl (by kernel_rfl) (by kernel_rfl) (by kernel_rfl) (fun _ _ _ h => h) (Or.inl ⟨by kernel_rfl, ?_⟩) ?_
  rotate_left
  · intro w'
    go_simp
    with_reducible rfl
  simp only [List.getElem_toArray, List.getElem_cons_zero, List.getElem_cons_succ, Act.put, List.setIfInBounds_toArray, List.set_cons_succ, List.set_cons_zero]
  refine wpAny_take (i := 26) (v := ?_) rfl (by kernel_rfl) (by kernel_rfl) (by kernel_rfl) (fun _ _ _ h => h) (Or.inl ⟨by kernel_rfl, ?_⟩) ?_
  rotate_left
  · intro w'
    go_simp
    with_reducible rfl
  simp only [List.getElem_toArray, List.getElem_cons_zero, List.getElem_cons_succ, Act.put, List.setIfInBounds_toArray, List.set_cons_succ, List.set_cons_zero]
  refine wpAny_take (i := 27) (v := ?_) rfl (by kernel_rfl) (by kernel_rfl) (by kernel_rfl) (fun _ _ _ h => h) (Or.inl ⟨by kernel_rfl, ?_⟩) ?_
  rotate_left
  · intro w'
    go_simp
    with_reducible rfl
  simp only [List.getElem_toArray, List.getElem_cons_zero, List.getElem_cons_succ, Act.put, List.setIfInBounds_toArray, List.set_cons_succ, List.set_cons_zero]
  refine wpAny_take (i := 28) (v := ?_) rfl (by kernel_rfl) (by kernel_rfl) (by kernel_rfl) (fun _ _ _ h => h) (Or.inl ⟨by kernel_rfl, ?_⟩) ?_
  rotate_left
  · intro w'
    go_simp
    with_reducible rfl
  simp only [List.getElem_toArray, List.getElem_cons_zero, List.getElem_cons_succ, Act.put, List.setIfInBounds_toArray, List.set_cons_succ, List.set_cons_zero]
  refine wpAny_ready (rs := [29]) (by kernel_rfl) (by simp) ?_
  refine AllReady.cons rfl (fun K hK => ?_) AllReady.nil
  refine step_callP (by kernel_rfl) 14 #[.slice A2 mn c2, .slice Ah mn ch] (by kernel_rfl) (HC5.out hb _ HT8.out) ?_
  rintro e w9 ⟨rfl, hb6⟩
  refine ⟨_, rfl, ?_⟩
  have HT9 := Lib.hid (HT8.out.far hb6); clear hb6 HT8
  refine hK _ _ ?_
  clear hK K
  simp only [List.getElem_toArray, List.getElem_cons_zero, List.getElem_cons_succ, Act.put, List.setIfInBounds_toArray, List.set_cons_succ, List.set_cons_zero]
  refine wpAny_take (i := 30) (v := ?_) rfl (by kernel_rfl) (by kernel_rfl) (by kernel_rfl) (fun _ _ _ h => h) (Or.inl ⟨by kernel_rfl, ?_⟩) ?_
  rotate_left
  · intro w'
    go_simp
    with_reducible rfl
  simp only [List.getElem_toArray, List.getElem_cons_zero, List.getElem_cons_succ, Act.put, List.setIfInBounds_toArray, List.set_cons_succ, List.set_cons_zero]
  refine wpAny_take (i := 31) (v := ?_) rfl (by kernel_rfl) (by kernel_rfl) (by kernel_rfl) (fun _ _ _ h => h) (Or.inl ⟨by kernel_rfl, ?_⟩) ?_
  rotate_left
  · intro w'
    go_simp
    with_reducible rfl
  simp only [List.getElem_toArray, List.getElem_cons_zero, List.getElem_cons_succ, Act.put, List.setIfInBounds_toArray, List.set_cons_succ, List.set_cons_zero]
  refine wpAny_ready (rs := [32]) (by kernel_rfl) (by simp) ?_
  refine AllReady.cons rfl (fun K hK => ?_) AllReady.nil
  refine step_callP (by kernel_rfl) 8 #[] (by kernel_rfl) (HC6.out hb _ HT9.out) ?_
  rintro e w10 ⟨rfl, hb6⟩
  refine ⟨_, rfl, ?_⟩
  have HT10 := Lib.hid (HT9.out.far hb6); clear hb6 HT9
  refine hK _ _ ?_
  clear hK K
  simp only [List.getElem_toArray, List.getElem_cons_zero, List.getElem_cons_succ, Act.put, List.setIfInBounds_toArray, List.set_cons_succ, List.set_cons_zero]
  refine wpAny_take (i := 33) (v := ?_) rfl (by kernel_rfl) (by kernel_rfl) (by kernel_rfl) (fun _ _ _ h => h) (Or.inl ⟨by kernel_rfl, ?_⟩) ?_
  rotate_left
  · intro w'
    go_simp
    with_reducible rfl
  simp only [List.getElem_toArray, List.getElem_cons_zero, List.getElem_cons_succ, Act.put, List.setIfInBounds_toArray, List.set_cons_succ, List.set_cons_zero]
  refine wpAny_take (i := 34) (v := ?_) rfl (by kernel_rfl) (by kernel_rfl) (by kernel_rfl) (fun _ _ _ h => h) (Or.inl ⟨by kernel_rfl, ?_⟩) ?_
  rotate_left
  · intro w'
    go_simp
    with_reducible rfl
  simp only [List.getElem_toArray, List.getElem_cons_zero, List.getElem_cons_succ, Act.put, List.setIfInBounds_toArray, List.set_cons_succ, List.set_cons_zero]
  refine wpAny_done (by kernel_rfl) ?_ _
  go_wp2_with fail
  go_ret
  exact ⟨rfl, HT10.out.bel⟩
theorem allocTells_any (w : World) (A0 A1 Ah : Option Addr) (raw : List Sp) (l : List P2) (hm : List Hm) (c0 c1 ch : Nat) (hr0 : RepS w A0 raw) (hl0 : raw.length ≤ 9223372036854775807) (hr1 : RepP2 w A1 l) (hok : ∀ x ∈ l, OkP2 x) (hl1 : l.length ≤ 9223372036854775807)
    (hh : RepH w Ah hm) (hl2 : hm.length ≤ ch) (hl3 : ch ≤ 9223372036854775807) (hwf : ∀ h ∈ hm, (Lit.int .i64 h.n).wf = true) (hT : TabAt 1 Lib.deBruijn64tab w) (hW : 1 < w.heap.size) :
    Calls Tryd.prog 5 #[.slice A0 raw.length c0, .slice A1 l.length c1, .slice Ah hm.length ch] w fun e w' => e = .returned (.bool true) ∧ Below w.heap.size w w' := by
  by_cases h1 : 0 < (spansL l).length
  · by_cases h2 : 0 < hm.length
    · exact allocTells_s1 w A0 A1 Ah raw l hm c0 c1 ch hr0 hl0 hr1 hok hl1 hh hl2 hl3 hwf hT hW h1 h2
    · exact allocTells_s2 w A0 A1 Ah raw l hm c0 c1 ch hr0 hl0 hr1 hok hl1 hh hl2 hl3 hwf hT hW h1 (by omega)
  · exact allocTells_s3 w A0 A1 Ah raw l hm c0 c1 ch hr0 hl0 hr1 hok hl1 hh hl2 hl3 hwf hT hW (by omega)
end Go.Proofs.YtfgdkeomjplnnaaDoor

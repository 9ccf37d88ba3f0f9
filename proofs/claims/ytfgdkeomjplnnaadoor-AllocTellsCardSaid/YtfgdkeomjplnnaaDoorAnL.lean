/- The document's answer for homes that are apart, walked. Conditions: sizes. -/
import Derived.Test.YtfgdkeomjplnnaaDoorAnK
namespace Go.Proofs.YtfgdkeomjplnnaaDoor
set_option linter.unusedVariables false
open Go.RowKit
attribute [local irreducible] Blk
def badPair (sp : List Sp) (hs : List Hm) (i k : Nat) : Prop := ∃ x y h, sp[i]? = some x ∧ sp[k]? = some y ∧ hs[i]? = some h ∧ hs[k]? = some h ∧ meets x y
theorem apartB_bad_len {sp : List Sp} {hs : List Hm} (h : ¬ sp.length = hs.length) : apartB sp hs = false := by
  unfold apartB
  exact decide_eq_false (fun hc => h hc.1)
theorem apartB_bad_home {sp : List Sp} {hs : List Hm} {i : Nat} {h : Hm} (hi : hs[i]? = some h) (hb : okHm h = false) : apartB sp hs = false := by
  unfold apartB
  refine decide_eq_false (fun hc => ?_)
  have := hc.2.1 h (List.mem_of_getElem? hi)
  rw [hb] at this
  cases this
theorem apartB_bad_pair {sp : List Sp} {hs : List Hm} {i k : Nat} (hk : k < i) (hb : badPair sp hs i k) : apartB sp hs = false := by
  obtain ⟨x, y, h, hx, hy, h1, h2, hm⟩ := hb
  unfold apartB
  refine decide_eq_false (fun hc => ?_)
  have hz1 : (sp.zip hs)[i]? = some (x, h) := by rw [List.getElem?_zip_eq_some]; exact ⟨hx, h1⟩
  have hz2 : (sp.zip hs)[k]? = some (y, h) := by rw [List.getElem?_zip_eq_some]; exact ⟨hy, h2⟩
  obtain ⟨l1, e1⟩ := List.getElem?_eq_some_iff.1 hz1
  obtain ⟨l2, e2⟩ := List.getElem?_eq_some_iff.1 hz2
  have := (List.pairwise_iff_getElem.1 hc.2.2) k i l2 l1 hk
  rw [e1, e2] at this
  exact this rfl (meets_symm hm)
theorem apartB_good {sp : List Sp} {hs : List Hm} (hl : sp.length = hs.length) (hok : ∀ (i : Nat) h, hs[i]? = some h → okHm h = true) (hp : ∀ i k : Nat, k < i → i < sp.length → ¬ badPair sp hs i k) : apartB sp hs = true := by
  unfold apartB
  refine decide_eq_true ⟨hl, fun h hh => ?_, ?_⟩
  · obtain ⟨i, hi⟩ := List.getElem?_of_mem hh
    exact hok i h hi
  · refine List.pairwise_iff_getElem.2 fun i j hi hj hij he hm => ?_
    have hi2 : i < sp.length := by simp at hi; omega
    have hj2 : j < sp.length := by simp at hj; omega
    rw [List.getElem_zip, List.getElem_zip] at he hm
    simp only at he hm
    exact hp j i hij hj2 ⟨sp[j], sp[i], hs[i]'(by omega), List.getElem?_eq_getElem hj2, List.getElem?_eq_getElem hi2, by rw [he]; exact List.getElem?_eq_getElem (by omega), List.getElem?_eq_getElem (by omega), meets_symm hm⟩
theorem no_succ {sp : List Sp} {hs : List Hm} {i k : Nat} (h : ∀ q, q < k → ¬ badPair sp hs i q) (hk : ¬ badPair sp hs i k) : ∀ q, q < k + 1 → ¬ badPair sp hs i q := fun q hq => by
  by_cases e : q = k
  · rw [e]; exact hk
  · exact h q (by omega)
set_option maxRecDepth 100000 in
set_option maxHeartbeats 3200000 in
theorem rApart_any (w : World) (A Bq : Option Addr) (sp : List Sp) (hs : List Hm) (c ch : Nat) (hr : RepS w A sp) (hh : RepH w Bq hs) (hn : sp.length ≤ 1000) (hn2 : hs.length ≤ 1000) (hfr : ∀ s ∈ sp, -1000000000 ≤ s.fr ∧ s.fr ≤ 1000000000) :
    Calls Tryd.prog 28 #[.slice A sp.length c, .slice Bq hs.length ch] w fun e w' => e = .returned (.bool (apartB sp hs)) ∧ Below w.heap.size w w' := by
  have HR := Lib.hid hr
  have HH := Lib.hid hh
  have HF := Lib.hid hfr
  clear hr hh hfr
  by_cases hlen : sp.length = hs.length
  rotate_left
  · have g0 : ((sp.length : Int) != (hs.length : Int)) = true := by
      simp only [bne_iff_ne, ne_eq]
      omega
    rw [apartB_bad_len hlen]
    clear hlen
    go_enter Tryd.func28, Tryd.ntmps28
    go_wp2_with fail
    go_ret
    exact ⟨rfl, Below.refl _ _⟩
  have g0 : ((sp.length : Int) != (hs.length : Int)) = false := by simp [hlen]
  have HLEN := Lib.hid hlen
  clear hlen
  obtain ⟨res, hres⟩ : ∃ r, apartB sp hs = r := ⟨_, rfl⟩
  rw [hres]
  have HAP := Lib.hid hres
  clear hres
  go_enter Tryd.func28, Tryd.ntmps28
  go_wp2_with fail
  go_loopw [5] (fun iv wr => ∃ (i : Nat), iv = .int .i64 (i : Int) ∧ i ≤ sp.length ∧ Hid (TillOk hs i) ∧ Hid (∀ j k, k < j → j < i → ¬ badPair sp hs j k) ∧ Hid (Below w.heap.size w wr)) (fun iv _ => sp.length - (intOf iv).toNat)
  case atStart => exact ⟨0, rfl, Nat.zero_le _, Lib.hid (fun i h hi => by omega), Lib.hid (fun j k _ hj => by omega), Lib.hid (Below.refl _ _)⟩
  case round =>
    obtain ⟨i, rfl, hi, HT, HP, HB⟩ := hrel
    by_cases hil : i < sp.length
    · have i0 : (0 : Int) ≤ (i : Int) := by omega
      have i1 : (i : Int) < (sp.length : Int) := by omega
      have i2 : (i : Int) < (hs.length : Int) := by have := HLEN.out; omega
      have gi : decide ((i : Int) < (sp.length : Int)) = true := decide_eq_true i1
      obtain ⟨x, hx⟩ : ∃ x, sp[i]? = some x := ⟨_, List.getElem?_eq_getElem hil⟩
      obtain ⟨h, hhi⟩ : ∃ h, hs[i]? = some h := ⟨_, List.getElem?_eq_getElem (show i < hs.length by have := HLEN.out; omega)⟩
      obtain ⟨bs, os, rfl, hbs, hcs⟩ := HR.out (by intro h; rw [h] at hil; simp at hil)
      obtain ⟨bh, oh, rfl, hbh, hch⟩ := HH.out (by intro e; rw [e] at hhi; simp at hhi)
      have e0 := (HB.out.cell (p := ⟨bh, oh + i * 2, none⟩) hbh).trans (hch i h hhi).1
      have e1 := (HB.out.cell (p := ⟨bh, oh + i * 2 + 1, none⟩) hbh).trans (hch i h hhi).2
      have HX := Lib.hid hx
      have HHI := Lib.hid hhi
      have HCS := Lib.hid hcs
      have HCH := Lib.hid hch
      have hT2 : okHm h = true → TillOk hs (i + 1) := fun hok j h' hj hj2 => by
        by_cases e : j = i
        · rw [e, HHI.out] at hj2
          obtain rfl : h = h' := by simpa using hj2
          exact hok
        · exact HT.out j h' (by omega) hj2
      have HT2 := Lib.hid hT2
      have HBAD := Lib.hid (show okHm h = false → res = false from fun hok => by rw [← HAP.out]; exact apartB_bad_home hhi hok)
      obtain ⟨f0, f1⟩ := HF.out x (List.mem_of_getElem? hx)
      have HFX := Lib.hid (show -1000000000 ≤ x.fr ∧ x.fr ≤ 1000000000 from ⟨f0, f1⟩)
      clear hx hhi hcs hch hT2 f0 f1
      obtain ⟨hsl, hnn⟩ := h
      simp only at e0 e1
      by_cases n0 : hnn < 0
      · have q1 : decide (hnn < 0) = true := decide_eq_true n0
        have HB2 := Lib.hid (HBAD.out (by unfold okHm; simp [n0]))
        clear n0
        go_wp2_with fail
        go_ret
        exact ⟨by rw [HB2.out]; rfl, HB.out⟩
      have q1 : decide (hnn < 0) = false := decide_eq_false n0
      by_cases n6 : hsl = false ∧ hnn > 5
      · obtain ⟨rfl, n6⟩ := n6
        have q2 : decide (hnn > 5) = true := decide_eq_true n6
        have HB2 := Lib.hid (HBAD.out (by unfold okHm; simp [show ¬ hnn < 6 by omega]))
        clear n0 n6
        go_wp2_with fail
        go_ret
        exact ⟨by rw [HB2.out]; rfl, HB.out⟩
      have HT3 := Lib.hid (HT2.out (by
        unfold okHm
        cases hsl with
        | true => simp; omega
        | false => simp at n6; simp; omega))
      have hq2 : hsl = true ∨ (hsl = false ∧ decide (hnn > 5) = false) := by
        cases hsl with
        | true => exact .inl rfl
        | false => exact .inr ⟨rfl, by simp at n6; exact decide_eq_false (by omega)⟩
      clear HBAD HT2 n0 n6
      rcases hq2 with rfl | ⟨rfl, q2⟩
      · go_wp2_with fail
        go_loopw [6] (fun kv wq => ∃ (k : Nat), kv = .int .i64 (k : Int) ∧ k ≤ i ∧ Hid (∀ q, q < k → ¬ badPair sp hs i q) ∧ Hid (Below w.heap.size w wq)) (fun kv _ => i - (intOf kv).toNat)
        case atStart => exact ⟨0, rfl, Nat.zero_le _, Lib.hid (fun q hq => by omega), HB⟩
        case round =>
          obtain ⟨k, rfl, hk, HNO, HB3⟩ := hrel
          by_cases hki : k < i
          · have k0 : (0 : Int) ≤ (k : Int) := by omega
            have k1 : (k : Int) < (i : Int) := by omega
            have k2 : (k : Int) < (sp.length : Int) := by omega
            have k3 : (k : Int) < (hs.length : Int) := by omega
            have gk : decide ((k : Int) < (i : Int)) = true := decide_eq_true k1
            have hkl : k < sp.length := by omega
            obtain ⟨y, hy⟩ : ∃ y, sp[k]? = some y := ⟨_, List.getElem?_eq_getElem hkl⟩
            obtain ⟨h2, hh2⟩ : ∃ h, hs[k]? = some h := ⟨_, List.getElem?_eq_getElem (show k < hs.length by have := HLEN.out; omega)⟩
            have hbsw : bs < wr.heap.size := by have := HB3.out.size; omega
            have hbhw : bh < wr.heap.size := by have := HB3.out.size; omega
            have cell := fun (i : Nat) (s : Sp) (hs : sp[i]? = some s) (j : Nat) (u : Value) (hu : s.arr[j]? = some u) => (HB3.out.cell (p := ⟨bs, os + i * 3 + j, none⟩) hbs).trans (HCS.out i s hs j u hu)
            have cx0 := cell i x HX.out 0 (.int .i64 x.v) rfl
            have cx1 := cell i x HX.out 1 (.int .i64 x.fr) rfl
            have cx2 := cell i x HX.out 2 (.int .i64 x.till) rfl
            have cy0 := cell k y hy 0 (.int .i64 y.v) rfl
            have cy1 := cell k y hy 1 (.int .i64 y.fr) rfl
            have cy2 := cell k y hy 2 (.int .i64 y.till) rfl
            rw [Nat.add_zero] at cx0 cy0
            have ch0 := (HB3.out.cell (p := ⟨bh, oh + i * 2, none⟩) hbh).trans (HCH.out i _ HHI.out).1
            have ch1 := (HB3.out.cell (p := ⟨bh, oh + i * 2 + 1, none⟩) hbh).trans (HCH.out i _ HHI.out).2
            have cg0 := (HB3.out.cell (p := ⟨bh, oh + k * 2, none⟩) hbh).trans (HCH.out k h2 hh2).1
            have cg1 := (HB3.out.cell (p := ⟨bh, oh + k * 2 + 1, none⟩) hbh).trans (HCH.out k h2 hh2).2
            have dx0 := fun p : Bel wr => bel_cell cx0 hbsw p
            have dx1 := fun p : Bel wr => bel_cell cx1 hbsw p
            have dx2 := fun p : Bel wr => bel_cell cx2 hbsw p
            have dy0 := fun p : Bel wr => bel_cell cy0 hbsw p
            have dy1 := fun p : Bel wr => bel_cell cy1 hbsw p
            have dy2 := fun p : Bel wr => bel_cell cy2 hbsw p
            have dh0 := fun p : Bel wr => bel_cell ch0 hbhw p
            have dh1 := fun p : Bel wr => bel_cell ch1 hbhw p
            have dg0 := fun p : Bel wr => bel_cell cg0 hbhw p
            have dg1 := fun p : Bel wr => bel_cell cg1 hbhw p
            have HM := Lib.hid (fun W => rmeet_any W x y HFX.out (HF.out y (List.mem_of_getElem? hy)))
            have HBADP := Lib.hid (show badPair sp hs i k → res = false from fun hb => by rw [← HAP.out]; exact apartB_bad_pair hki hb)
            have HIFF := Lib.hid (show badPair sp hs i k ↔ (meets x y ∧ (⟨true, hnn⟩ : Hm) = h2) from by
              constructor
              · rintro ⟨x', y', h', a1, a2, a3, a4, a5⟩
                rw [HX.out] at a1
                rw [hy] at a2
                rw [HHI.out] at a3
                rw [hh2] at a4
                obtain rfl : x = x' := by simpa using a1
                obtain rfl : y = y' := by simpa using a2
                exact ⟨a5, (Option.some.inj a3).trans (Option.some.inj a4).symm⟩
              · rintro ⟨a5, rfl⟩
                exact ⟨x, y, _, HX.out, hy, HHI.out, hh2, a5⟩)
            clear cell cx0 cx1 cx2 cy0 cy1 cy2 ch0 ch1 cg0 cg1 hy hh2
            obtain ⟨xv, xf, xt⟩ := x
            obtain ⟨yv, yf, yt⟩ := y
            obtain ⟨gs, gn⟩ := h2
            simp only at dx0 dx1 dx2 dy0 dy1 dy2 dg0 dg1 HM
            by_cases hme : meets ⟨xv, xf, xt⟩ ⟨yv, yf, yt⟩
            · rw [decide_eq_true hme] at HM
              by_cases hE : (⟨true, hnn⟩ : Hm) = ⟨gs, gn⟩
              · have HRF := Lib.hid (HBADP.out (HIFF.out.2 ⟨hme, hE⟩))
                simp only [Hm.mk.injEq] at hE
                obtain ⟨rfl, rfl⟩ := hE
                have heq := fun w => (run_home_eql w true true hnn hnn).trans (show _ = .ok (.bool true) w by simp)
                clear hme
                go_wp2_with fail
                refine region_bel (by kernel_rfl) (by kernel_rfl) ?_
                repeat (go_big_quiet_step (first | (go_at_call 45; exact calls_bel (HM.out _))))
                refine wpQuiet_nil ?_
                rintro _ ⟨p, rfl⟩
                have HBE := Lib.hid (HB3.out.trans (p.le.mono HB3.out.size))
                generalize p.val = w5 at *
                go_wp2_with fail
                go_ret
                exact ⟨by rw [HRF.out]; rfl, HBE.out⟩
              · have HN2 := Lib.hid (no_succ HNO.out (fun hb => hE (HIFF.out.1 hb).2))
                have heq := fun w => (run_home_eql w true gs hnn gn).trans (show _ = .ok (.bool false) w by
                  congr 2
                  rw [Bool.and_eq_false_iff]
                  refine Classical.byContradiction fun hc => hE ?_
                  simp only [not_or, Bool.not_eq_false, beq_iff_eq] at hc
                  rw [hc.1, hc.2])
                clear hme hE
                go_wp2_with fail
                refine region_bel (by kernel_rfl) (by kernel_rfl) ?_
                repeat (go_big_quiet_step (first | (go_at_call 45; exact calls_bel (HM.out _))))
                refine wpQuiet_nil ?_
                rintro _ ⟨p, rfl⟩
                have HBE := Lib.hid (HB3.out.trans (p.le.mono HB3.out.size))
                generalize p.val = w5 at *
                go_wp2_with fail
                exact ⟨⟨k + 1, rfl, by omega, HN2, HBE⟩, by simp [intOf]; omega⟩
            · rw [decide_eq_false hme] at HM
              have HN2 := Lib.hid (no_succ HNO.out (fun hb => hme (HIFF.out.1 hb).1))
              clear hme
              go_wp2_with fail
              refine region_bel (by kernel_rfl) (by kernel_rfl) ?_
              repeat (go_big_quiet_step (first | (go_at_call 45; exact calls_bel (HM.out _))))
              refine wpQuiet_nil ?_
              rintro _ ⟨p, rfl⟩
              have HBE := Lib.hid (HB3.out.trans (p.le.mono HB3.out.size))
              generalize p.val = w5 at *
              go_wp2_with fail
              exact ⟨⟨k + 1, rfl, by omega, HN2, HBE⟩, by simp [intOf]; omega⟩
          · have hke : k = i := by omega
            have gk : decide ((k : Int) < (i : Int)) = false := decide_eq_false (by omega)
            have HP2 := Lib.hid (show ∀ j q, q < j → j < i + 1 → ¬ badPair sp hs j q from fun j q hq hj => by
              by_cases e : j = i
              · rw [e] at hq ⊢
                exact HNO.out q (by omega)
              · exact HP.out j q hq (by omega))
            clear hke
            go_wp2_with fail
            exact ⟨⟨i + 1, rfl, by omega, HT3, HP2, HB3⟩, by simp [intOf]; omega⟩
      · go_wp2_with fail
        go_loopw [6] (fun kv wq => ∃ (k : Nat), kv = .int .i64 (k : Int) ∧ k ≤ i ∧ Hid (∀ q, q < k → ¬ badPair sp hs i q) ∧ Hid (Below w.heap.size w wq)) (fun kv _ => i - (intOf kv).toNat)
        case atStart => exact ⟨0, rfl, Nat.zero_le _, Lib.hid (fun q hq => by omega), HB⟩
        case round =>
          obtain ⟨k, rfl, hk, HNO, HB3⟩ := hrel
          by_cases hki : k < i
          · have k0 : (0 : Int) ≤ (k : Int) := by omega
            have k1 : (k : Int) < (i : Int) := by omega
            have k2 : (k : Int) < (sp.length : Int) := by omega
            have k3 : (k : Int) < (hs.length : Int) := by omega
            have gk : decide ((k : Int) < (i : Int)) = true := decide_eq_true k1
            have hkl : k < sp.length := by omega
            obtain ⟨y, hy⟩ : ∃ y, sp[k]? = some y := ⟨_, List.getElem?_eq_getElem hkl⟩
            obtain ⟨h2, hh2⟩ : ∃ h, hs[k]? = some h := ⟨_, List.getElem?_eq_getElem (show k < hs.length by have := HLEN.out; omega)⟩
            have hbsw : bs < wr.heap.size := by have := HB3.out.size; omega
            have hbhw : bh < wr.heap.size := by have := HB3.out.size; omega
            have cell := fun (i : Nat) (s : Sp) (hs : sp[i]? = some s) (j : Nat) (u : Value) (hu : s.arr[j]? = some u) => (HB3.out.cell (p := ⟨bs, os + i * 3 + j, none⟩) hbs).trans (HCS.out i s hs j u hu)
            have cx0 := cell i x HX.out 0 (.int .i64 x.v) rfl
            have cx1 := cell i x HX.out 1 (.int .i64 x.fr) rfl
            have cx2 := cell i x HX.out 2 (.int .i64 x.till) rfl
            have cy0 := cell k y hy 0 (.int .i64 y.v) rfl
            have cy1 := cell k y hy 1 (.int .i64 y.fr) rfl
            have cy2 := cell k y hy 2 (.int .i64 y.till) rfl
            rw [Nat.add_zero] at cx0 cy0
            have ch0 := (HB3.out.cell (p := ⟨bh, oh + i * 2, none⟩) hbh).trans (HCH.out i _ HHI.out).1
            have ch1 := (HB3.out.cell (p := ⟨bh, oh + i * 2 + 1, none⟩) hbh).trans (HCH.out i _ HHI.out).2
            have cg0 := (HB3.out.cell (p := ⟨bh, oh + k * 2, none⟩) hbh).trans (HCH.out k h2 hh2).1
            have cg1 := (HB3.out.cell (p := ⟨bh, oh + k * 2 + 1, none⟩) hbh).trans (HCH.out k h2 hh2).2
            have dx0 := fun p : Bel wr => bel_cell cx0 hbsw p
            have dx1 := fun p : Bel wr => bel_cell cx1 hbsw p
            have dx2 := fun p : Bel wr => bel_cell cx2 hbsw p
            have dy0 := fun p : Bel wr => bel_cell cy0 hbsw p
            have dy1 := fun p : Bel wr => bel_cell cy1 hbsw p
            have dy2 := fun p : Bel wr => bel_cell cy2 hbsw p
            have dh0 := fun p : Bel wr => bel_cell ch0 hbhw p
            have dh1 := fun p : Bel wr => bel_cell ch1 hbhw p
            have dg0 := fun p : Bel wr => bel_cell cg0 hbhw p
            have dg1 := fun p : Bel wr => bel_cell cg1 hbhw p
            have HM := Lib.hid (fun W => rmeet_any W x y HFX.out (HF.out y (List.mem_of_getElem? hy)))
            have HBADP := Lib.hid (show badPair sp hs i k → res = false from fun hb => by rw [← HAP.out]; exact apartB_bad_pair hki hb)
            have HIFF := Lib.hid (show badPair sp hs i k ↔ (meets x y ∧ (⟨false, hnn⟩ : Hm) = h2) from by
              constructor
              · rintro ⟨x', y', h', a1, a2, a3, a4, a5⟩
                rw [HX.out] at a1
                rw [hy] at a2
                rw [HHI.out] at a3
                rw [hh2] at a4
                obtain rfl : x = x' := by simpa using a1
                obtain rfl : y = y' := by simpa using a2
                exact ⟨a5, (Option.some.inj a3).trans (Option.some.inj a4).symm⟩
              · rintro ⟨a5, rfl⟩
                exact ⟨x, y, _, HX.out, hy, HHI.out, hh2, a5⟩)
            clear cell cx0 cx1 cx2 cy0 cy1 cy2 ch0 ch1 cg0 cg1 hy hh2
            obtain ⟨xv, xf, xt⟩ := x
            obtain ⟨yv, yf, yt⟩ := y
            obtain ⟨gs, gn⟩ := h2
            simp only at dx0 dx1 dx2 dy0 dy1 dy2 dg0 dg1 HM
            by_cases hme : meets ⟨xv, xf, xt⟩ ⟨yv, yf, yt⟩
            · rw [decide_eq_true hme] at HM
              by_cases hE : (⟨false, hnn⟩ : Hm) = ⟨gs, gn⟩
              · have HRF := Lib.hid (HBADP.out (HIFF.out.2 ⟨hme, hE⟩))
                simp only [Hm.mk.injEq] at hE
                obtain ⟨rfl, rfl⟩ := hE
                have heq := fun w => (run_home_eql w false false hnn hnn).trans (show _ = .ok (.bool true) w by simp)
                clear hme
                go_wp2_with fail
                refine region_bel (by kernel_rfl) (by kernel_rfl) ?_
                repeat (go_big_quiet_step (first | (go_at_call 45; exact calls_bel (HM.out _))))
                refine wpQuiet_nil ?_
                rintro _ ⟨p, rfl⟩
                have HBE := Lib.hid (HB3.out.trans (p.le.mono HB3.out.size))
                generalize p.val = w5 at *
                go_wp2_with fail
                go_ret
                exact ⟨by rw [HRF.out]; rfl, HBE.out⟩
              · have HN2 := Lib.hid (no_succ HNO.out (fun hb => hE (HIFF.out.1 hb).2))
                have heq := fun w => (run_home_eql w false gs hnn gn).trans (show _ = .ok (.bool false) w by
                  congr 2
                  rw [Bool.and_eq_false_iff]
                  refine Classical.byContradiction fun hc => hE ?_
                  simp only [not_or, Bool.not_eq_false, beq_iff_eq] at hc
                  rw [hc.1, hc.2])
                clear hme hE
                go_wp2_with fail
                refine region_bel (by kernel_rfl) (by kernel_rfl) ?_
                repeat (go_big_quiet_step (first | (go_at_call 45; exact calls_bel (HM.out _))))
                refine wpQuiet_nil ?_
                rintro _ ⟨p, rfl⟩
                have HBE := Lib.hid (HB3.out.trans (p.le.mono HB3.out.size))
                generalize p.val = w5 at *
                go_wp2_with fail
                exact ⟨⟨k + 1, rfl, by omega, HN2, HBE⟩, by simp [intOf]; omega⟩
            · rw [decide_eq_false hme] at HM
              have HN2 := Lib.hid (no_succ HNO.out (fun hb => hme (HIFF.out.1 hb).1))
              clear hme
              go_wp2_with fail
              refine region_bel (by kernel_rfl) (by kernel_rfl) ?_
              repeat (go_big_quiet_step (first | (go_at_call 45; exact calls_bel (HM.out _))))
              refine wpQuiet_nil ?_
              rintro _ ⟨p, rfl⟩
              have HBE := Lib.hid (HB3.out.trans (p.le.mono HB3.out.size))
              generalize p.val = w5 at *
              go_wp2_with fail
              exact ⟨⟨k + 1, rfl, by omega, HN2, HBE⟩, by simp [intOf]; omega⟩
          · have hke : k = i := by omega
            have gk : decide ((k : Int) < (i : Int)) = false := decide_eq_false (by omega)
            have HP2 := Lib.hid (show ∀ j q, q < j → j < i + 1 → ¬ badPair sp hs j q from fun j q hq hj => by
              by_cases e : j = i
              · rw [e] at hq ⊢
                exact HNO.out q (by omega)
              · exact HP.out j q hq (by omega))
            clear hke
            go_wp2_with fail
            exact ⟨⟨i + 1, rfl, by omega, HT3, HP2, HB3⟩, by simp [intOf]; omega⟩
    · have hie : i = sp.length := by omega
      subst hie
      have gi : decide ((sp.length : Int) < (sp.length : Int)) = false := decide_eq_false (by omega)
      have HRES := Lib.hid (show res = true from by
        rw [← HAP.out]
        exact apartB_good HLEN.out (fun i h hi => HT.out i h (by have := (List.getElem?_eq_some_iff.1 hi).1; have := HLEN.out; omega) hi) (fun i k hk hi => HP.out i k hk hi))
      go_wp2_with fail
      go_ret
      exact ⟨by rw [HRES.out]; rfl, HB.out⟩
end Go.Proofs.YtfgdkeomjplnnaaDoor

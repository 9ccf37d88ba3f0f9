/- slices.symMergeCmpFunc over the order of spans, where one half is one element. Conditions: sizes. -/
import Derived.Test.YtfgdkeomjplnnaaDoorAlQ
namespace Go.Proofs.YtfgdkeomjplnnaaDoor
set_option linter.unusedVariables false
open Go.RowKit
attribute [local irreducible] Blk
theorem RB.le {sp : List Sp} {x y : Nat} (h : RB sp x y) : frS sp x ≤ frS sp y := by unfold RB at h; omega
theorem srt_fr {sp : List Sp} {l : List Nat} {a b p q : Nat} (h : SortedOn sp l a b) (h1 : a ≤ p) (h2 : p ≤ q) (h3 : q < b) : frS sp (gN l p) ≤ frS sp (gN l q) := by
  rcases Nat.lt_or_ge p q with hlt | hge
  · exact (h p q h1 hlt h3).le
  · rw [show p = q by omega]; exact Int.le_refl _
section
variable {W : World} {Bo Bl : Nat} {A : Option Addr} {cA : Nat} {sp : List Sp} {l : List Nat}
set_option maxRecDepth 100000 in
set_option maxHeartbeats 3200000 in
theorem sym_left (h : OrW W Bo Bl A cA sp l) (hl : l.length ≤ 1000000) (hsp : sp.length ≤ 1000000) (a b : Nat) (hb : b ≤ l.length) (hM : MergePre sp l a (a + 1) b) (co : Nat) (ai mi bi : Int) (ea : ai = (a : Int)) (em : mi = (a : Int) + 1) (eb : bi = (b : Int)) :
    Calls Tryd.prog 50 #[.slice (some ⟨Bo, 0, none⟩) l.length co, .int .i64 ai, .int .i64 mi, .int .i64 bi, .func (.func 21) #[] #[.pointer (some ⟨Bl, 0, none⟩)]] W (SortP W Bo Bl A cA sp l a b) := by
  subst ea em eb
  have H := Lib.hid h
  have HM := Lib.hid hM
  have hmb := hM.mb
  clear h hM
  have e0 : ((a : Int) + 1 - (a : Int) == 1) = true := beq_iff_eq.2 (by omega)
  have e1 : (a : Int) + 1 - (a : Int) = 1 := by omega
  go_enter Tryd.func50, Tryd.ntmps50
  go_wp2_with fail
  go_loopw [10, 11] (fun iv jv wr => ∃ (i j : Nat), iv = .int .i64 (i : Int) ∧ jv = .int .i64 (j : Int) ∧ a + 1 ≤ i ∧ i ≤ j ∧ j ≤ b ∧ Hid ((∀ q, a + 1 ≤ q → q < i → frS sp (gN l q) < frS sp (gN l a)) ∧ (∀ q, j ≤ q → q < b → frS sp (gN l a) ≤ frS sp (gN l q))) ∧ Hid (OrW wr Bo Bl A cA sp l ∧ Keep W wr (fun k => k = Bo))) (fun iv jv _ => (intOf jv - intOf iv).toNat)
  case atStart => exact ⟨a + 1, b, congrArg (Value.int .i64) (by omega), rfl, Nat.le_refl _, by omega, Nat.le_refl _, Lib.hid ⟨fun q h1 h2 => by omega, fun q h1 h2 => by omega⟩, Lib.hid ⟨H.out, Keep.refl _ _⟩⟩
  case round =>
    obtain ⟨i, j, rfl, rfl, hi, hij, hjb, HB, HX⟩ := hrel
    by_cases hlt : i < j
    · obtain ⟨hh, ehh⟩ : ∃ hh, (i + j) / 2 = hh := ⟨_, rfl⟩
      have t1 : ((i : Int) + (j : Int)) / 2 = (hh : Int) := by omega
      have z1 : i ≤ hh := by omega
      have z2 : hh < j := by omega
      clear ehh
      have n1 : (i : Int) < (j : Int) := by omega
      have n2 : (0 : Int) ≤ (i : Int) + (j : Int) := by omega
      have n3 : (i : Int) + (j : Int) ≤ 4000000 := by omega
      have n4 : (0 : Int) ≤ (hh : Int) := by omega
      have n5 : (hh : Int) < (l.length : Int) := by omega
      have n6 : (0 : Int) ≤ (a : Int) := by omega
      have n7 : (a : Int) < (l.length : Int) := by omega
      have hp : hh < l.length := by omega
      have hq : a < l.length := by omega
      have cp := HX.out.1.cell hp
      have cq := HX.out.1.cell hq
      have HC := Lib.hid (fun n => Calls.quiet_of (cmp_any (HX.out.1.drewN n) (gN l hh) (gN l a) (H.out.lt _ (gN_mem hp)) (H.out.lt _ (gN_mem hq)) hsp))
      have HLT := Lib.hid (cmp_lt (frS sp (gN l hh)) (frS sp (gN l a)))
      have HS := Lib.hid (HM.out.s2)
      have HX2 := Lib.hid (fun n => HX.out.1.drewN n)
      by_cases hf : frS sp (gN l hh) < frS sp (gN l a)
      · have hd : decide (cmpI (frS sp (gN l hh)) (frS sp (gN l a)) < 0) = true := by rw [HLT.out]; exact decide_eq_true hf
        have hd2 : cmpI (frS sp (gN l hh)) (frS sp (gN l a)) < 0 := of_decide_eq_true hd
        have HB2 := Lib.hid (show (∀ q, a + 1 ≤ q → q < hh + 1 → frS sp (gN l q) < frS sp (gN l a)) ∧ (∀ q, j ≤ q → q < b → frS sp (gN l a) ≤ frS sp (gN l q)) from
          ⟨fun q h1 h2 => by have := srt_fr HS.out h1 (show q ≤ hh by omega) (by omega); omega, HB.out.2⟩)
        clear hf HLT
        generalize cmpI (frS sp (gN l hh)) (frS sp (gN l a)) = cc at *
        generalize hgp : gN l hh = gp at *
        generalize hgq : gN l a = gq at *
        clear hgp hgq
        go_wp2_with fail
        go_quiet ((go_at_call 21; exact HC.out _))
        go_wp2_with fail
        exact ⟨⟨hh + 1, j, rfl, rfl, by omega, by omega, hjb, HB2, Lib.hid ⟨HX2.out nq, HX.out.2.drewN nq⟩⟩, by simp [intOf]; omega⟩
      · have hd : decide (cmpI (frS sp (gN l hh)) (frS sp (gN l a)) < 0) = false := by rw [HLT.out]; exact decide_eq_false hf
        have hd2 : ¬ cmpI (frS sp (gN l hh)) (frS sp (gN l a)) < 0 := of_decide_eq_false hd
        have HB2 := Lib.hid (show (∀ q, a + 1 ≤ q → q < i → frS sp (gN l q) < frS sp (gN l a)) ∧ (∀ q, hh ≤ q → q < b → frS sp (gN l a) ≤ frS sp (gN l q)) from
          ⟨HB.out.1, fun q h1 h2 => by have := srt_fr HS.out (show a + 1 ≤ hh by omega) h1 h2; omega⟩)
        clear hf HLT
        generalize cmpI (frS sp (gN l hh)) (frS sp (gN l a)) = cc at *
        generalize hgp : gN l hh = gp at *
        generalize hgq : gN l a = gq at *
        clear hgp hgq
        go_wp2_with fail
        go_quiet ((go_at_call 21; exact HC.out _))
        go_wp2_with fail
        exact ⟨⟨i, hh, rfl, rfl, hi, by omega, by omega, HB2, Lib.hid ⟨HX2.out nq, HX.out.2.drewN nq⟩⟩, by simp [intOf]; omega⟩
    · have hje : i = j := by omega
      subst hje
      have n1 : ¬ (i : Int) < (i : Int) := by omega
      have n2 : (0 : Int) ≤ (i : Int) := by omega
      go_wp2_with fail
      go_loopw [13] (fun kv wx => ∃ (k : Nat) (c : List Nat), kv = .int .i64 (k : Int) ∧ a ≤ k ∧ k ≤ i - 1 ∧ Hid (ShR l a k c) ∧ Hid (OrW wx Bo Bl A cA sp c ∧ Keep W wx (fun k => k = Bo))) (fun kv _ => i - (intOf kv).toNat)
      case atStart => exact ⟨a, l, rfl, Nat.le_refl _, by omega, Lib.hid (ShR.start l a), HX.out⟩
      case round =>
        clear HX
        obtain ⟨k, c, rfl, hk, hki, HS, HX⟩ := hrel
        have hcl := HS.out.1.length_eq
        have HCL := Lib.hid hcl
        clear hcl
        by_cases hlt : k < i - 1
        · have hp : k < c.length := by rw [HCL.out]; omega
          have hq : k + 1 < c.length := by rw [HCL.out]; omega
          have cp := HX.out.1.cell hp
          have cq := HX.out.1.cell hq
          have ff := HX.out.1.row.frozen
          have m1 : (k : Int) < (i : Int) - 1 := by omega
          have m2 : (0 : Int) ≤ (k : Int) := by omega
          have m3 : (k : Int) < (l.length : Int) := by omega
          have m4 : (0 : Int) ≤ (k : Int) + 1 := by omega
          have m5 : (k : Int) + 1 < (l.length : Int) := by omega
          have t1 : ((k : Int) + 1).toNat = k + 1 := by omega
          have e1 : ¬ k + 1 = k := by omega
          have e2 : ¬ k = k + 1 := by omega
          have HE := Lib.hid (HX.out.1.exch hp hq)
          have HK := Lib.hid ((HX.out.2.setCell ⟨Bo, k, none⟩ (fun _ => rfl) (.int .i64 (gN c (k + 1) : Int))).setCell ⟨Bo, k + 1, none⟩ (fun _ => rfl) (.int .i64 (gN c k : Int)))
          have HST := Lib.hid (HS.out.step hk (by omega))
          generalize gN c (k + 1) = gq at *
          generalize gN c k = gp at *
          go_wp2_with fail
          go_big_region
          go_wp2_with fail
          exact ⟨⟨k + 1, _, rfl, by omega, by omega, HST.out, Lib.hid ⟨HE.out.drewN 1, HK.out.drewN 1⟩⟩, by simp [intOf]; omega⟩
        · have hke : k = i - 1 := by omega
          have m1 : ¬ (k : Int) < (i : Int) - 1 := by omega
          have HSR := Lib.hid (merge_left HM.out hi hjb HB.out.1 (fun q h1 h2 => Int.not_lt.2 (HB.out.2 q h1 h2)) (by rw [← hke]; exact HS.out))
          go_wp2_with fail
          go_end0
          exact ⟨rfl, c, HSR.out, HX.out⟩
end
end Go.Proofs.YtfgdkeomjplnnaaDoor

/- slices.symMergeCmpFunc over the order of spans, whole. Conditions: sizes. -/
import Derived.Test.YtfgdkeomjplnnaaDoorAlS
namespace Go.Proofs.YtfgdkeomjplnnaaDoor
set_option linter.unusedVariables false
open Go.RowKit
attribute [local irreducible] Blk
section
variable {W : World} {Bo Bl : Nat} {A : Option Addr} {cA : Nat} {sp : List Sp} {l : List Nat}
def SymSaid (Bo Bl : Nat) (A : Option Addr) (cA : Nat) (sp : List Sp) (L co N : Nat) : Prop :=
  ∀ (W : World) (l : List Nat) (a m b : Nat), b - a < N → OrW W Bo Bl A cA sp l → l.length = L → b ≤ L → MergePre sp l a m b → ∀ (ai mi bi : Int), ai = (a : Int) → mi = (m : Int) → bi = (b : Int) →
    Calls Tryd.prog 50 #[.slice (some ⟨Bo, 0, none⟩) L co, .int .i64 ai, .int .i64 mi, .int .i64 bi, .func (.func 21) #[] #[.pointer (some ⟨Bl, 0, none⟩)]] W (SortP W Bo Bl A cA sp l a b)
set_option maxRecDepth 100000 in
set_option maxHeartbeats 6400000 in
theorem sym_mid (h : OrW W Bo Bl A cA sp l) (hl : l.length ≤ 1000000) (hsp : sp.length ≤ 1000000) (a m b : Nat) (hb : b ≤ l.length) (hM : MergePre sp l a m b) (hne : m ≠ a + 1) (hne2 : b ≠ m + 1) (co : Nat) (IH : SymSaid Bo Bl A cA sp l.length co (b - a)) :
    Calls Tryd.prog 50 #[.slice (some ⟨Bo, 0, none⟩) l.length co, .int .i64 (a : Int), .int .i64 (m : Int), .int .i64 (b : Int), .func (.func 21) #[] #[.pointer (some ⟨Bl, 0, none⟩)]] W (SortP W Bo Bl A cA sp l a b) := by
  have H := Lib.hid h
  have HM := Lib.hid hM
  have HIH := Lib.hid IH
  have ham := hM.am
  have hmb := hM.mb
  clear h hM IH
  have z0 : ((m : Int) - (a : Int) == 1) = false := beq_eq_false_iff_ne.2 (by omega)
  have z1 : ((b : Int) - (m : Int) == 1) = false := beq_eq_false_iff_ne.2 (by omega)
  obtain ⟨mid, emid⟩ : ∃ mid, (a + b) / 2 = mid := ⟨_, rfl⟩
  have t0 : ((a : Int) + (b : Int)) / 2 = (mid : Int) := by omega
  have y0 : a < mid := by omega
  have y1 : mid < b := by omega
  have y2 : a + b ≤ 2 * mid + 1 := by omega
  have y3 : 2 * mid ≤ a + b := by omega
  clear emid
  have y4 : (0 : Int) ≤ (a : Int) + (b : Int) := by omega
  have y5 : (a : Int) + (b : Int) ≤ 4000000 := by omega
  have y6 : (0 : Int) ≤ (mid : Int) := by omega
  have y7 : (mid : Int) ≤ 4000000 := by omega
  have y8 : (0 : Int) ≤ (m : Int) := by omega
  have y9 : (m : Int) ≤ 4000000 := by omega
  have y10 : (0 : Int) ≤ (b : Int) := by omega
  have y11 : (b : Int) ≤ 4000000 := by omega
  obtain ⟨s0, r0, hsr⟩ : ∃ s0 r0 : Nat, (mid < m ∧ s0 + b = mid + m ∧ r0 = mid) ∨ (m ≤ mid ∧ s0 = a ∧ r0 = m) := by
    by_cases hmm : mid < m
    · exact ⟨mid + m - b, mid, .inl ⟨hmm, by omega, rfl⟩⟩
    · exact ⟨a, m, .inr ⟨by omega, rfl, rfl⟩⟩
  have x0 : a ≤ s0 := by omega
  have x1 : s0 ≤ r0 := by omega
  have x2 : r0 ≤ m := by omega
  have x3 : r0 ≤ mid := by omega
  have x4 : mid + m ≤ b + s0 := by omega
  have HQ := Lib.hid hsr
  have HSV : Hid (mid < m → (mid : Int) + (m : Int) - (b : Int) = (s0 : Int)) := Lib.hid (fun h => by omega)
  rcases hsr with ⟨g0, g1, g2⟩ | ⟨g0, g1, g2⟩
  · skip
    have k0 : (m : Int) > (mid : Int) := by omega
    have HS0 := Lib.hid (HSV.out g0)
    clear HSV
    go_enter Tryd.func50, Tryd.ntmps50
    go_wp2_with fail
    go_loopw [20, 21] (fun sv rv wr => ∃ (s r : Nat), sv = .int .i64 (s : Int) ∧ rv = .int .i64 (r : Int) ∧ s0 ≤ s ∧ s ≤ r ∧ r ≤ r0 ∧ Hid ((s = s0 ∨ frS sp (gN l (s - 1)) ≤ frS sp (gN l (mid + m - s))) ∧ (r = r0 ∨ frS sp (gN l (mid + m - 1 - r)) < frS sp (gN l r))) ∧ Hid (OrW wr Bo Bl A cA sp l ∧ Keep W wr (fun k => k = Bo))) (fun sv rv _ => (intOf rv - intOf sv).toNat)
    case atStart => exact ⟨s0, r0, congrArg (Value.int .i64) HS0.out, congrArg (Value.int .i64) (by omega), Nat.le_refl _, x1, Nat.le_refl _, Lib.hid ⟨.inl rfl, .inl rfl⟩, Lib.hid ⟨H.out, Keep.refl _ _⟩⟩
    case round =>
      obtain ⟨s, r, rfl, rfl, hs, hsr, hr, HB, HX⟩ := hrel
      by_cases hlt : s < r
      · obtain ⟨c, ec⟩ : ∃ c, (s + r) / 2 = c := ⟨_, rfl⟩
        have t1 : ((s : Int) + (r : Int)) / 2 = (c : Int) := by omega
        have c1 : s ≤ c := by omega
        have c2 : c < r := by omega
        clear ec
        obtain ⟨pc, epc⟩ : ∃ pc, mid + m - 1 - c = pc := ⟨_, rfl⟩
        have u1 : (mid : Int) + (m : Int) - 1 - (c : Int) = (pc : Int) := by omega
        have u2 : pc < l.length := by omega
        have u3 : c < l.length := by omega
        have u4 : mid + m - (c + 1) = pc := by omega
        have n1 : (s : Int) < (r : Int) := by omega
        have n2 : (0 : Int) ≤ (s : Int) + (r : Int) := by omega
        have n3 : (s : Int) + (r : Int) ≤ 4000000 := by omega
        have n4 : (0 : Int) ≤ (c : Int) := by omega
        have n5 : (c : Int) < (l.length : Int) := by omega
        have n6 : (0 : Int) ≤ (pc : Int) := by omega
        have n7 : (pc : Int) < (l.length : Int) := by omega
        have w1 : IntKind.i64.wrap ((mid : Int) + (m : Int) - 1 - (c : Int)) = (pc : Int) := by rw [IntKind.wrap_i64]; omega
        have cp := HX.out.1.cell u2
        have cq := HX.out.1.cell u3
        have HC := Lib.hid (fun n => Calls.quiet_of (cmp_any (HX.out.1.drewN n) (gN l pc) (gN l c) (H.out.lt _ (gN_mem u2)) (H.out.lt _ (gN_mem u3)) hsp))
        have HLT := Lib.hid (cmp_lt (frS sp (gN l pc)) (frS sp (gN l c)))
        have HX2 := Lib.hid (fun n => HX.out.1.drewN n)
        have EPC := Lib.hid epc
        have U4 := Lib.hid u4
        clear epc u4
        by_cases hf : frS sp (gN l pc) < frS sp (gN l c)
        · have hd : decide (cmpI (frS sp (gN l pc)) (frS sp (gN l c)) < 0) = true := by rw [HLT.out]; exact decide_eq_true hf
          have hd2 : cmpI (frS sp (gN l pc)) (frS sp (gN l c)) < 0 := of_decide_eq_true hd
          have HB2 := Lib.hid (show (s = s0 ∨ frS sp (gN l (s - 1)) ≤ frS sp (gN l (mid + m - s))) ∧ (c = r0 ∨ frS sp (gN l (mid + m - 1 - c)) < frS sp (gN l c)) from ⟨HB.out.1, .inr (by rw [EPC.out]; exact hf)⟩)
          clear hf HLT EPC U4
          generalize cmpI (frS sp (gN l pc)) (frS sp (gN l c)) = cc at *
          generalize hgp : gN l pc = gp at cp HC
          generalize hgq : gN l c = gq at cq HC
          clear hgp hgq
          have HBB := Lib.hid HB2
          clear HB2
          go_wp2_with fail
          go_quiet ((go_at_call 21; exact HC.out _))
          go_wp2_with fail
          exact ⟨⟨s, c, rfl, rfl, hs, by omega, by omega, HBB.out, Lib.hid ⟨HX2.out nq, HX.out.2.drewN nq⟩⟩, by simp [intOf]; omega⟩
        · have hd : decide (cmpI (frS sp (gN l pc)) (frS sp (gN l c)) < 0) = false := by rw [HLT.out]; exact decide_eq_false hf
          have hd2 : ¬ cmpI (frS sp (gN l pc)) (frS sp (gN l c)) < 0 := of_decide_eq_false hd
          have HB2 := Lib.hid (show (c + 1 = s0 ∨ frS sp (gN l (c + 1 - 1)) ≤ frS sp (gN l (mid + m - (c + 1)))) ∧ (r = r0 ∨ frS sp (gN l (mid + m - 1 - r)) < frS sp (gN l r)) from ⟨.inr (by rw [U4.out]; exact Int.not_lt.1 hf), HB.out.2⟩)
          clear hf HLT EPC U4
          generalize cmpI (frS sp (gN l pc)) (frS sp (gN l c)) = cc at *
          generalize hgp : gN l pc = gp at cp HC
          generalize hgq : gN l c = gq at cq HC
          clear hgp hgq
          have HBB := Lib.hid HB2
          clear HB2
          go_wp2_with fail
          go_quiet ((go_at_call 21; exact HC.out _))
          go_wp2_with fail
          exact ⟨⟨c + 1, r, rfl, rfl, by omega, by omega, hr, HBB.out, Lib.hid ⟨HX2.out nq, HX.out.2.drewN nq⟩⟩, by simp [intOf]; omega⟩
      · have hse : s = r := by omega
        subst hse
        have n1 : ¬ (s : Int) < (s : Int) := by omega
        obtain ⟨en, een⟩ : ∃ en, mid + m - s = en := ⟨_, rfl⟩
        have HCUT := Lib.hid (show CutAt sp l a m b mid s en from
          ⟨by omega, by omega, by omega, by omega, by omega, fun q1 q2 => by
            rcases HB.out.1 with h | h
            · omega
            · rw [een] at h; exact Int.not_lt.2 h, fun q1 q2 => by
            rcases HB.out.2 with h | h
            · omega
            · rw [show mid + m - 1 - s = en - 1 by omega] at h; exact h⟩)
        have ve : (mid : Int) + (m : Int) - (s : Int) = (en : Int) := by omega
        have v1 : m ≤ en := by omega
        have v2 : en ≤ b := by omega
        have v3 : s ≤ mid := by omega
        have v4 : mid ≤ en := by omega
        have v5 : a ≤ s := by omega
        have v6 : s ≤ m := by omega
        have v7 : s + en = mid + m := by omega
        clear een HB n1
        have n1 : ¬ (s : Int) < (s : Int) := by omega
        have s0z : (0 : Int) ≤ (s : Int) := by omega
        by_cases hrot : s < m ∧ m < en
        · skip
          obtain ⟨hrot1, hrot2⟩ := hrot
          have d1 : decide ((s : Int) < (m : Int)) = true := decide_eq_true (by omega)
          have d2 : decide ((m : Int) < (en : Int)) = true := decide_eq_true (by omega)
          have HRT := Lib.hid (fun ai mi bi ea em eb => rotate_any HX.out.1 hl s m en hrot1 hrot2 (by omega) co ai mi bi ea em eb (.func (.func 21) #[] #[.pointer (some ⟨Bl, 0, none⟩)]))
          go_wp2_with fail
          all_goals
            refine (HRT.out _ _ _ rfl rfl (by omega)).mono ?_
            rintro e w1 ⟨rfl, l1, hR, hW1, hK1⟩
            have HR := Lib.hid hR
            have HW1 := Lib.hid (show OrW w1 Bo Bl A cA sp l1 ∧ Keep W w1 (fun k => k = Bo) from ⟨hW1, HX.out.2.trans hK1 (fun _ _ h => h)⟩)
            have HL1 := Lib.hid (hR.1.length_eq)
            clear hR hW1 hK1 d1 d2
            have P1 := Lib.hid (cut_pre1 HM.out HCUT.out HR.out)
            by_cases hr1 : a < s ∧ s < mid
            · obtain ⟨hr1a, hr1b⟩ := hr1
              have b1 : decide ((a : Int) < (s : Int)) = true := decide_eq_true (by omega)
              have b2 : decide ((s : Int) < (mid : Int)) = true := decide_eq_true (by omega)
              have HI1 := Lib.hid (fun ai mi bi ea em eb => HIH.out w1 l1 a s mid (by omega) HW1.out.1 HL1.out (by omega) ⟨P1.out.1, P1.out.2.1, P1.out.2.2, hr1a, hr1b⟩ ai mi bi ea em eb)
              go_wp2_with fail
              all_goals
                refine (HI1.out _ _ _ rfl rfl rfl).mono ?_
                rintro e w2 ⟨rfl, l2, hS2, hW2, hK2⟩
                have HS2 := Lib.hid hS2
                have HW2 := Lib.hid (show OrW w2 Bo Bl A cA sp l2 ∧ Keep W w2 (fun k => k = Bo) from ⟨hW2, HW1.out.2.trans hK2 (fun _ _ h => h)⟩)
                have HL2 := Lib.hid (hS2.1.length_eq.trans HL1.out)
                clear hS2 hW2 hK2
                have P2 := Lib.hid (cut_pre2 HM.out HCUT.out HR.out (fun p hp => HS2.out.2.1 p (.inr hp)))
                by_cases hr2 : mid < en ∧ en < b
                · obtain ⟨hr2a, hr2b⟩ := hr2
                  have b3 : decide ((mid : Int) < (en : Int)) = true := decide_eq_true (by omega)
                  have b4 : decide ((en : Int) < (b : Int)) = true := decide_eq_true (by omega)
                  have HI2 := Lib.hid (fun ai mi bi ea em eb => HIH.out w2 l2 mid en b (by omega) HW2.out.1 HL2.out hb ⟨P2.out.1, P2.out.2.1, P2.out.2.2, hr2a, hr2b⟩ ai mi bi ea em eb)
                  go_wp2_with fail
                  all_goals
                    refine (HI2.out _ _ _ rfl (by omega) rfl).mono ?_
                    rintro e w3 ⟨rfl, l3, hS3, hW3, hK3⟩
                    have HE := Lib.hid (show SortP W Bo Bl A cA sp l a b (.returned (.tuple #[])) w3 from ⟨rfl, l3, cut_join HM.out HCUT.out HR.out HS2.out hS3, hW3, HW2.out.2.trans hK3 (fun _ _ h => h)⟩)
                    clear hS3 hW3 hK3
                    go_wp2_with fail
                    go_end0
                    exact HE.out
                · have HS3 := Lib.hid (show SortR sp l2 mid b l2 from SortR.refl (by
                      rcases Nat.lt_or_ge mid en with hh | hh
                      · have hh2 : en = b := by omega
                        have := P2.out.1; rw [hh2] at this; exact this
                      · have hh2 : en = mid := by omega
                        have := P2.out.2.1; rw [hh2] at this; exact this))
                  have HE := Lib.hid (show SortP W Bo Bl A cA sp l a b (.returned (.tuple #[])) w2 from ⟨rfl, l2, cut_join HM.out HCUT.out HR.out HS2.out HS3.out, HW2.out⟩)
                  by_cases hme : mid < en
                  · have b3 : decide ((mid : Int) < (en : Int)) = true := decide_eq_true (by omega)
                    have b4 : decide ((en : Int) < (b : Int)) = false := decide_eq_false (by omega)
                    go_wp2_with fail
                    all_goals (go_end0; exact HE.out)
                  · have b3 : decide ((mid : Int) < (en : Int)) = false := decide_eq_false (by omega)
                    go_wp2_with fail
                    all_goals (go_end0; exact HE.out)
            · have HS2 := Lib.hid (show SortR sp l1 a mid l1 from SortR.refl (by
                  rcases Nat.lt_or_ge a s with hh | hh
                  · have hh2 : s = mid := by omega
                    have := P1.out.1; rw [hh2] at this; exact this
                  · have hh2 : s = a := by omega
                    have := P1.out.2.1; rw [hh2] at this; exact this))
              have HW2 := HW1
              by_cases has : a < s
              · have b1 : decide ((a : Int) < (s : Int)) = true := decide_eq_true (by omega)
                have b2 : decide ((s : Int) < (mid : Int)) = false := decide_eq_false (by omega)
                have P2 := Lib.hid (cut_pre2 HM.out HCUT.out HR.out (fun p hp => HS2.out.2.1 p (.inr hp)))
                by_cases hr2 : mid < en ∧ en < b
                · obtain ⟨hr2a, hr2b⟩ := hr2
                  have b3 : decide ((mid : Int) < (en : Int)) = true := decide_eq_true (by omega)
                  have b4 : decide ((en : Int) < (b : Int)) = true := decide_eq_true (by omega)
                  have HI2 := Lib.hid (fun ai mi bi ea em eb => HIH.out w1 l1 mid en b (by omega) HW2.out.1 HL1.out hb ⟨P2.out.1, P2.out.2.1, P2.out.2.2, hr2a, hr2b⟩ ai mi bi ea em eb)
                  go_wp2_with fail
                  all_goals
                    refine (HI2.out _ _ _ rfl (by omega) rfl).mono ?_
                    rintro e w3 ⟨rfl, l3, hS3, hW3, hK3⟩
                    have HE := Lib.hid (show SortP W Bo Bl A cA sp l a b (.returned (.tuple #[])) w3 from ⟨rfl, l3, cut_join HM.out HCUT.out HR.out HS2.out hS3, hW3, HW2.out.2.trans hK3 (fun _ _ h => h)⟩)
                    clear hS3 hW3 hK3
                    go_wp2_with fail
                    go_end0
                    exact HE.out
                · have HS3 := Lib.hid (show SortR sp l1 mid b l1 from SortR.refl (by
                      rcases Nat.lt_or_ge mid en with hh | hh
                      · have hh2 : en = b := by omega
                        have := P2.out.1; rw [hh2] at this; exact this
                      · have hh2 : en = mid := by omega
                        have := P2.out.2.1; rw [hh2] at this; exact this))
                  have HE := Lib.hid (show SortP W Bo Bl A cA sp l a b (.returned (.tuple #[])) w1 from ⟨rfl, l1, cut_join HM.out HCUT.out HR.out HS2.out HS3.out, HW2.out⟩)
                  by_cases hme : mid < en
                  · have b3 : decide ((mid : Int) < (en : Int)) = true := decide_eq_true (by omega)
                    have b4 : decide ((en : Int) < (b : Int)) = false := decide_eq_false (by omega)
                    go_wp2_with fail
                    all_goals (go_end0; exact HE.out)
                  · have b3 : decide ((mid : Int) < (en : Int)) = false := decide_eq_false (by omega)
                    go_wp2_with fail
                    all_goals (go_end0; exact HE.out)
              · have b1 : decide ((a : Int) < (s : Int)) = false := decide_eq_false (by omega)
                have P2 := Lib.hid (cut_pre2 HM.out HCUT.out HR.out (fun p hp => HS2.out.2.1 p (.inr hp)))
                by_cases hr2 : mid < en ∧ en < b
                · obtain ⟨hr2a, hr2b⟩ := hr2
                  have b3 : decide ((mid : Int) < (en : Int)) = true := decide_eq_true (by omega)
                  have b4 : decide ((en : Int) < (b : Int)) = true := decide_eq_true (by omega)
                  have HI2 := Lib.hid (fun ai mi bi ea em eb => HIH.out w1 l1 mid en b (by omega) HW2.out.1 HL1.out hb ⟨P2.out.1, P2.out.2.1, P2.out.2.2, hr2a, hr2b⟩ ai mi bi ea em eb)
                  go_wp2_with fail
                  all_goals
                    refine (HI2.out _ _ _ rfl (by omega) rfl).mono ?_
                    rintro e w3 ⟨rfl, l3, hS3, hW3, hK3⟩
                    have HE := Lib.hid (show SortP W Bo Bl A cA sp l a b (.returned (.tuple #[])) w3 from ⟨rfl, l3, cut_join HM.out HCUT.out HR.out HS2.out hS3, hW3, HW2.out.2.trans hK3 (fun _ _ h => h)⟩)
                    clear hS3 hW3 hK3
                    go_wp2_with fail
                    go_end0
                    exact HE.out
                · have HS3 := Lib.hid (show SortR sp l1 mid b l1 from SortR.refl (by
                      rcases Nat.lt_or_ge mid en with hh | hh
                      · have hh2 : en = b := by omega
                        have := P2.out.1; rw [hh2] at this; exact this
                      · have hh2 : en = mid := by omega
                        have := P2.out.2.1; rw [hh2] at this; exact this))
                  have HE := Lib.hid (show SortP W Bo Bl A cA sp l a b (.returned (.tuple #[])) w1 from ⟨rfl, l1, cut_join HM.out HCUT.out HR.out HS2.out HS3.out, HW2.out⟩)
                  by_cases hme : mid < en
                  · have b3 : decide ((mid : Int) < (en : Int)) = true := decide_eq_true (by omega)
                    have b4 : decide ((en : Int) < (b : Int)) = false := decide_eq_false (by omega)
                    go_wp2_with fail
                    all_goals (go_end0; exact HE.out)
                  · have b3 : decide ((mid : Int) < (en : Int)) = false := decide_eq_false (by omega)
                    go_wp2_with fail
                    all_goals (go_end0; exact HE.out)
        · skip
          have HR := Lib.hid (RotR.same (l := l) (s := s) (m := m) (e := en) (by omega) v6 v1)
          have HW1 := HX
          obtain ⟨dd1, hdd1⟩ : ∃ d, decide ((s : Int) < (m : Int)) = d := ⟨_, rfl⟩
          by_cases hsm : s < m
          · have d1 : decide ((s : Int) < (m : Int)) = true := decide_eq_true (by omega)
            have d2 : decide ((m : Int) < (en : Int)) = false := decide_eq_false (by omega)
            have P1 := Lib.hid (cut_pre1 HM.out HCUT.out HR.out)
            by_cases hr1 : a < s ∧ s < mid
            · obtain ⟨hr1a, hr1b⟩ := hr1
              have b1 : decide ((a : Int) < (s : Int)) = true := decide_eq_true (by omega)
              have b2 : decide ((s : Int) < (mid : Int)) = true := decide_eq_true (by omega)
              have HI1 := Lib.hid (fun ai mi bi ea em eb => HIH.out wr l a s mid (by omega) HW1.out.1 rfl (by omega) ⟨P1.out.1, P1.out.2.1, P1.out.2.2, hr1a, hr1b⟩ ai mi bi ea em eb)
              go_wp2_with fail
              all_goals
                refine (HI1.out _ _ _ rfl rfl rfl).mono ?_
                rintro e w2 ⟨rfl, l2, hS2, hW2, hK2⟩
                have HS2 := Lib.hid hS2
                have HW2 := Lib.hid (show OrW w2 Bo Bl A cA sp l2 ∧ Keep W w2 (fun k => k = Bo) from ⟨hW2, HW1.out.2.trans hK2 (fun _ _ h => h)⟩)
                have HL2 := Lib.hid (hS2.1.length_eq.trans (Eq.refl l.length))
                clear hS2 hW2 hK2
                have P2 := Lib.hid (cut_pre2 HM.out HCUT.out HR.out (fun p hp => HS2.out.2.1 p (.inr hp)))
                by_cases hr2 : mid < en ∧ en < b
                · obtain ⟨hr2a, hr2b⟩ := hr2
                  have b3 : decide ((mid : Int) < (en : Int)) = true := decide_eq_true (by omega)
                  have b4 : decide ((en : Int) < (b : Int)) = true := decide_eq_true (by omega)
                  have HI2 := Lib.hid (fun ai mi bi ea em eb => HIH.out w2 l2 mid en b (by omega) HW2.out.1 HL2.out hb ⟨P2.out.1, P2.out.2.1, P2.out.2.2, hr2a, hr2b⟩ ai mi bi ea em eb)
                  go_wp2_with fail
                  all_goals
                    refine (HI2.out _ _ _ rfl (by omega) rfl).mono ?_
                    rintro e w3 ⟨rfl, l3, hS3, hW3, hK3⟩
                    have HE := Lib.hid (show SortP W Bo Bl A cA sp l a b (.returned (.tuple #[])) w3 from ⟨rfl, l3, cut_join HM.out HCUT.out HR.out HS2.out hS3, hW3, HW2.out.2.trans hK3 (fun _ _ h => h)⟩)
                    clear hS3 hW3 hK3
                    go_wp2_with fail
                    go_end0
                    exact HE.out
                · have HS3 := Lib.hid (show SortR sp l2 mid b l2 from SortR.refl (by
                      rcases Nat.lt_or_ge mid en with hh | hh
                      · have hh2 : en = b := by omega
                        have := P2.out.1; rw [hh2] at this; exact this
                      · have hh2 : en = mid := by omega
                        have := P2.out.2.1; rw [hh2] at this; exact this))
                  have HE := Lib.hid (show SortP W Bo Bl A cA sp l a b (.returned (.tuple #[])) w2 from ⟨rfl, l2, cut_join HM.out HCUT.out HR.out HS2.out HS3.out, HW2.out⟩)
                  by_cases hme : mid < en
                  · have b3 : decide ((mid : Int) < (en : Int)) = true := decide_eq_true (by omega)
                    have b4 : decide ((en : Int) < (b : Int)) = false := decide_eq_false (by omega)
                    go_wp2_with fail
                    all_goals (go_end0; exact HE.out)
                  · have b3 : decide ((mid : Int) < (en : Int)) = false := decide_eq_false (by omega)
                    go_wp2_with fail
                    all_goals (go_end0; exact HE.out)
            · have HS2 := Lib.hid (show SortR sp l a mid l from SortR.refl (by
                  rcases Nat.lt_or_ge a s with hh | hh
                  · have hh2 : s = mid := by omega
                    have := P1.out.1; rw [hh2] at this; exact this
                  · have hh2 : s = a := by omega
                    have := P1.out.2.1; rw [hh2] at this; exact this))
              have HW2 := HW1
              by_cases has : a < s
              · have b1 : decide ((a : Int) < (s : Int)) = true := decide_eq_true (by omega)
                have b2 : decide ((s : Int) < (mid : Int)) = false := decide_eq_false (by omega)
                have P2 := Lib.hid (cut_pre2 HM.out HCUT.out HR.out (fun p hp => HS2.out.2.1 p (.inr hp)))
                by_cases hr2 : mid < en ∧ en < b
                · obtain ⟨hr2a, hr2b⟩ := hr2
                  have b3 : decide ((mid : Int) < (en : Int)) = true := decide_eq_true (by omega)
                  have b4 : decide ((en : Int) < (b : Int)) = true := decide_eq_true (by omega)
                  have HI2 := Lib.hid (fun ai mi bi ea em eb => HIH.out wr l mid en b (by omega) HW2.out.1 rfl hb ⟨P2.out.1, P2.out.2.1, P2.out.2.2, hr2a, hr2b⟩ ai mi bi ea em eb)
                  go_wp2_with fail
                  all_goals
                    refine (HI2.out _ _ _ rfl (by omega) rfl).mono ?_
                    rintro e w3 ⟨rfl, l3, hS3, hW3, hK3⟩
                    have HE := Lib.hid (show SortP W Bo Bl A cA sp l a b (.returned (.tuple #[])) w3 from ⟨rfl, l3, cut_join HM.out HCUT.out HR.out HS2.out hS3, hW3, HW2.out.2.trans hK3 (fun _ _ h => h)⟩)
                    clear hS3 hW3 hK3
                    go_wp2_with fail
                    go_end0
                    exact HE.out
                · have HS3 := Lib.hid (show SortR sp l mid b l from SortR.refl (by
                      rcases Nat.lt_or_ge mid en with hh | hh
                      · have hh2 : en = b := by omega
                        have := P2.out.1; rw [hh2] at this; exact this
                      · have hh2 : en = mid := by omega
                        have := P2.out.2.1; rw [hh2] at this; exact this))
                  have HE := Lib.hid (show SortP W Bo Bl A cA sp l a b (.returned (.tuple #[])) wr from ⟨rfl, l, cut_join HM.out HCUT.out HR.out HS2.out HS3.out, HW2.out⟩)
                  by_cases hme : mid < en
                  · have b3 : decide ((mid : Int) < (en : Int)) = true := decide_eq_true (by omega)
                    have b4 : decide ((en : Int) < (b : Int)) = false := decide_eq_false (by omega)
                    go_wp2_with fail
                    all_goals (go_end0; exact HE.out)
                  · have b3 : decide ((mid : Int) < (en : Int)) = false := decide_eq_false (by omega)
                    go_wp2_with fail
                    all_goals (go_end0; exact HE.out)
              · have b1 : decide ((a : Int) < (s : Int)) = false := decide_eq_false (by omega)
                have P2 := Lib.hid (cut_pre2 HM.out HCUT.out HR.out (fun p hp => HS2.out.2.1 p (.inr hp)))
                by_cases hr2 : mid < en ∧ en < b
                · obtain ⟨hr2a, hr2b⟩ := hr2
                  have b3 : decide ((mid : Int) < (en : Int)) = true := decide_eq_true (by omega)
                  have b4 : decide ((en : Int) < (b : Int)) = true := decide_eq_true (by omega)
                  have HI2 := Lib.hid (fun ai mi bi ea em eb => HIH.out wr l mid en b (by omega) HW2.out.1 rfl hb ⟨P2.out.1, P2.out.2.1, P2.out.2.2, hr2a, hr2b⟩ ai mi bi ea em eb)
                  go_wp2_with fail
                  all_goals
                    refine (HI2.out _ _ _ rfl (by omega) rfl).mono ?_
                    rintro e w3 ⟨rfl, l3, hS3, hW3, hK3⟩
                    have HE := Lib.hid (show SortP W Bo Bl A cA sp l a b (.returned (.tuple #[])) w3 from ⟨rfl, l3, cut_join HM.out HCUT.out HR.out HS2.out hS3, hW3, HW2.out.2.trans hK3 (fun _ _ h => h)⟩)
                    clear hS3 hW3 hK3
                    go_wp2_with fail
                    go_end0
                    exact HE.out
                · have HS3 := Lib.hid (show SortR sp l mid b l from SortR.refl (by
                      rcases Nat.lt_or_ge mid en with hh | hh
                      · have hh2 : en = b := by omega
                        have := P2.out.1; rw [hh2] at this; exact this
                      · have hh2 : en = mid := by omega
                        have := P2.out.2.1; rw [hh2] at this; exact this))
                  have HE := Lib.hid (show SortP W Bo Bl A cA sp l a b (.returned (.tuple #[])) wr from ⟨rfl, l, cut_join HM.out HCUT.out HR.out HS2.out HS3.out, HW2.out⟩)
                  by_cases hme : mid < en
                  · have b3 : decide ((mid : Int) < (en : Int)) = true := decide_eq_true (by omega)
                    have b4 : decide ((en : Int) < (b : Int)) = false := decide_eq_false (by omega)
                    go_wp2_with fail
                    all_goals (go_end0; exact HE.out)
                  · have b3 : decide ((mid : Int) < (en : Int)) = false := decide_eq_false (by omega)
                    go_wp2_with fail
                    all_goals (go_end0; exact HE.out)
          · have d1 : decide ((s : Int) < (m : Int)) = false := decide_eq_false (by omega)
            have P1 := Lib.hid (cut_pre1 HM.out HCUT.out HR.out)
            by_cases hr1 : a < s ∧ s < mid
            · obtain ⟨hr1a, hr1b⟩ := hr1
              have b1 : decide ((a : Int) < (s : Int)) = true := decide_eq_true (by omega)
              have b2 : decide ((s : Int) < (mid : Int)) = true := decide_eq_true (by omega)
              have HI1 := Lib.hid (fun ai mi bi ea em eb => HIH.out wr l a s mid (by omega) HW1.out.1 rfl (by omega) ⟨P1.out.1, P1.out.2.1, P1.out.2.2, hr1a, hr1b⟩ ai mi bi ea em eb)
              go_wp2_with fail
              all_goals
                refine (HI1.out _ _ _ rfl rfl rfl).mono ?_
                rintro e w2 ⟨rfl, l2, hS2, hW2, hK2⟩
                have HS2 := Lib.hid hS2
                have HW2 := Lib.hid (show OrW w2 Bo Bl A cA sp l2 ∧ Keep W w2 (fun k => k = Bo) from ⟨hW2, HW1.out.2.trans hK2 (fun _ _ h => h)⟩)
                have HL2 := Lib.hid (hS2.1.length_eq.trans (Eq.refl l.length))
                clear hS2 hW2 hK2
                have P2 := Lib.hid (cut_pre2 HM.out HCUT.out HR.out (fun p hp => HS2.out.2.1 p (.inr hp)))
                by_cases hr2 : mid < en ∧ en < b
                · obtain ⟨hr2a, hr2b⟩ := hr2
                  have b3 : decide ((mid : Int) < (en : Int)) = true := decide_eq_true (by omega)
                  have b4 : decide ((en : Int) < (b : Int)) = true := decide_eq_true (by omega)
                  have HI2 := Lib.hid (fun ai mi bi ea em eb => HIH.out w2 l2 mid en b (by omega) HW2.out.1 HL2.out hb ⟨P2.out.1, P2.out.2.1, P2.out.2.2, hr2a, hr2b⟩ ai mi bi ea em eb)
                  go_wp2_with fail
                  all_goals
                    refine (HI2.out _ _ _ rfl (by omega) rfl).mono ?_
                    rintro e w3 ⟨rfl, l3, hS3, hW3, hK3⟩
                    have HE := Lib.hid (show SortP W Bo Bl A cA sp l a b (.returned (.tuple #[])) w3 from ⟨rfl, l3, cut_join HM.out HCUT.out HR.out HS2.out hS3, hW3, HW2.out.2.trans hK3 (fun _ _ h => h)⟩)
                    clear hS3 hW3 hK3
                    go_wp2_with fail
                    go_end0
                    exact HE.out
                · have HS3 := Lib.hid (show SortR sp l2 mid b l2 from SortR.refl (by
                      rcases Nat.lt_or_ge mid en with hh | hh
                      · have hh2 : en = b := by omega
                        have := P2.out.1; rw [hh2] at this; exact this
                      · have hh2 : en = mid := by omega
                        have := P2.out.2.1; rw [hh2] at this; exact this))
                  have HE := Lib.hid (show SortP W Bo Bl A cA sp l a b (.returned (.tuple #[])) w2 from ⟨rfl, l2, cut_join HM.out HCUT.out HR.out HS2.out HS3.out, HW2.out⟩)
                  by_cases hme : mid < en
                  · have b3 : decide ((mid : Int) < (en : Int)) = true := decide_eq_true (by omega)
                    have b4 : decide ((en : Int) < (b : Int)) = false := decide_eq_false (by omega)
                    go_wp2_with fail
                    all_goals (go_end0; exact HE.out)
                  · have b3 : decide ((mid : Int) < (en : Int)) = false := decide_eq_false (by omega)
                    go_wp2_with fail
                    all_goals (go_end0; exact HE.out)
            · have HS2 := Lib.hid (show SortR sp l a mid l from SortR.refl (by
                  rcases Nat.lt_or_ge a s with hh | hh
                  · have hh2 : s = mid := by omega
                    have := P1.out.1; rw [hh2] at this; exact this
                  · have hh2 : s = a := by omega
                    have := P1.out.2.1; rw [hh2] at this; exact this))
              have HW2 := HW1
              by_cases has : a < s
              · have b1 : decide ((a : Int) < (s : Int)) = true := decide_eq_true (by omega)
                have b2 : decide ((s : Int) < (mid : Int)) = false := decide_eq_false (by omega)
                have P2 := Lib.hid (cut_pre2 HM.out HCUT.out HR.out (fun p hp => HS2.out.2.1 p (.inr hp)))
                by_cases hr2 : mid < en ∧ en < b
                · obtain ⟨hr2a, hr2b⟩ := hr2
                  have b3 : decide ((mid : Int) < (en : Int)) = true := decide_eq_true (by omega)
                  have b4 : decide ((en : Int) < (b : Int)) = true := decide_eq_true (by omega)
                  have HI2 := Lib.hid (fun ai mi bi ea em eb => HIH.out wr l mid en b (by omega) HW2.out.1 rfl hb ⟨P2.out.1, P2.out.2.1, P2.out.2.2, hr2a, hr2b⟩ ai mi bi ea em eb)
                  go_wp2_with fail
                  all_goals
                    refine (HI2.out _ _ _ rfl (by omega) rfl).mono ?_
                    rintro e w3 ⟨rfl, l3, hS3, hW3, hK3⟩
                    have HE := Lib.hid (show SortP W Bo Bl A cA sp l a b (.returned (.tuple #[])) w3 from ⟨rfl, l3, cut_join HM.out HCUT.out HR.out HS2.out hS3, hW3, HW2.out.2.trans hK3 (fun _ _ h => h)⟩)
                    clear hS3 hW3 hK3
                    go_wp2_with fail
                    go_end0
                    exact HE.out
                · have HS3 := Lib.hid (show SortR sp l mid b l from SortR.refl (by
                      rcases Nat.lt_or_ge mid en with hh | hh
                      · have hh2 : en = b := by omega
                        have := P2.out.1; rw [hh2] at this; exact this
                      · have hh2 : en = mid := by omega
                        have := P2.out.2.1; rw [hh2] at this; exact this))
                  have HE := Lib.hid (show SortP W Bo Bl A cA sp l a b (.returned (.tuple #[])) wr from ⟨rfl, l, cut_join HM.out HCUT.out HR.out HS2.out HS3.out, HW2.out⟩)
                  by_cases hme : mid < en
                  · have b3 : decide ((mid : Int) < (en : Int)) = true := decide_eq_true (by omega)
                    have b4 : decide ((en : Int) < (b : Int)) = false := decide_eq_false (by omega)
                    go_wp2_with fail
                    all_goals (go_end0; exact HE.out)
                  · have b3 : decide ((mid : Int) < (en : Int)) = false := decide_eq_false (by omega)
                    go_wp2_with fail
                    all_goals (go_end0; exact HE.out)
              · have b1 : decide ((a : Int) < (s : Int)) = false := decide_eq_false (by omega)
                have P2 := Lib.hid (cut_pre2 HM.out HCUT.out HR.out (fun p hp => HS2.out.2.1 p (.inr hp)))
                by_cases hr2 : mid < en ∧ en < b
                · obtain ⟨hr2a, hr2b⟩ := hr2
                  have b3 : decide ((mid : Int) < (en : Int)) = true := decide_eq_true (by omega)
                  have b4 : decide ((en : Int) < (b : Int)) = true := decide_eq_true (by omega)
                  have HI2 := Lib.hid (fun ai mi bi ea em eb => HIH.out wr l mid en b (by omega) HW2.out.1 rfl hb ⟨P2.out.1, P2.out.2.1, P2.out.2.2, hr2a, hr2b⟩ ai mi bi ea em eb)
                  go_wp2_with fail
                  all_goals
                    refine (HI2.out _ _ _ rfl (by omega) rfl).mono ?_
                    rintro e w3 ⟨rfl, l3, hS3, hW3, hK3⟩
                    have HE := Lib.hid (show SortP W Bo Bl A cA sp l a b (.returned (.tuple #[])) w3 from ⟨rfl, l3, cut_join HM.out HCUT.out HR.out HS2.out hS3, hW3, HW2.out.2.trans hK3 (fun _ _ h => h)⟩)
                    clear hS3 hW3 hK3
                    go_wp2_with fail
                    go_end0
                    exact HE.out
                · have HS3 := Lib.hid (show SortR sp l mid b l from SortR.refl (by
                      rcases Nat.lt_or_ge mid en with hh | hh
                      · have hh2 : en = b := by omega
                        have := P2.out.1; rw [hh2] at this; exact this
                      · have hh2 : en = mid := by omega
                        have := P2.out.2.1; rw [hh2] at this; exact this))
                  have HE := Lib.hid (show SortP W Bo Bl A cA sp l a b (.returned (.tuple #[])) wr from ⟨rfl, l, cut_join HM.out HCUT.out HR.out HS2.out HS3.out, HW2.out⟩)
                  by_cases hme : mid < en
                  · have b3 : decide ((mid : Int) < (en : Int)) = true := decide_eq_true (by omega)
                    have b4 : decide ((en : Int) < (b : Int)) = false := decide_eq_false (by omega)
                    go_wp2_with fail
                    all_goals (go_end0; exact HE.out)
                  · have b3 : decide ((mid : Int) < (en : Int)) = false := decide_eq_false (by omega)
                    go_wp2_with fail
                    all_goals (go_end0; exact HE.out)
  · skip
    have k0 : ¬ (m : Int) > (mid : Int) := by omega
    clear HSV
    go_enter Tryd.func50, Tryd.ntmps50
    go_wp2_with fail
    go_loopw [20, 21] (fun sv rv wr => ∃ (s r : Nat), sv = .int .i64 (s : Int) ∧ rv = .int .i64 (r : Int) ∧ s0 ≤ s ∧ s ≤ r ∧ r ≤ r0 ∧ Hid ((s = s0 ∨ frS sp (gN l (s - 1)) ≤ frS sp (gN l (mid + m - s))) ∧ (r = r0 ∨ frS sp (gN l (mid + m - 1 - r)) < frS sp (gN l r))) ∧ Hid (OrW wr Bo Bl A cA sp l ∧ Keep W wr (fun k => k = Bo))) (fun sv rv _ => (intOf rv - intOf sv).toNat)
    case atStart => exact ⟨s0, r0, congrArg (Value.int .i64) (by omega), congrArg (Value.int .i64) (by omega), Nat.le_refl _, x1, Nat.le_refl _, Lib.hid ⟨.inl rfl, .inl rfl⟩, Lib.hid ⟨H.out, Keep.refl _ _⟩⟩
    case round =>
      obtain ⟨s, r, rfl, rfl, hs, hsr, hr, HB, HX⟩ := hrel
      by_cases hlt : s < r
      · obtain ⟨c, ec⟩ : ∃ c, (s + r) / 2 = c := ⟨_, rfl⟩
        have t1 : ((s : Int) + (r : Int)) / 2 = (c : Int) := by omega
        have c1 : s ≤ c := by omega
        have c2 : c < r := by omega
        clear ec
        obtain ⟨pc, epc⟩ : ∃ pc, mid + m - 1 - c = pc := ⟨_, rfl⟩
        have u1 : (mid : Int) + (m : Int) - 1 - (c : Int) = (pc : Int) := by omega
        have u2 : pc < l.length := by omega
        have u3 : c < l.length := by omega
        have u4 : mid + m - (c + 1) = pc := by omega
        have n1 : (s : Int) < (r : Int) := by omega
        have n2 : (0 : Int) ≤ (s : Int) + (r : Int) := by omega
        have n3 : (s : Int) + (r : Int) ≤ 4000000 := by omega
        have n4 : (0 : Int) ≤ (c : Int) := by omega
        have n5 : (c : Int) < (l.length : Int) := by omega
        have n6 : (0 : Int) ≤ (pc : Int) := by omega
        have n7 : (pc : Int) < (l.length : Int) := by omega
        have w1 : IntKind.i64.wrap ((mid : Int) + (m : Int) - 1 - (c : Int)) = (pc : Int) := by rw [IntKind.wrap_i64]; omega
        have cp := HX.out.1.cell u2
        have cq := HX.out.1.cell u3
        have HC := Lib.hid (fun n => Calls.quiet_of (cmp_any (HX.out.1.drewN n) (gN l pc) (gN l c) (H.out.lt _ (gN_mem u2)) (H.out.lt _ (gN_mem u3)) hsp))
        have HLT := Lib.hid (cmp_lt (frS sp (gN l pc)) (frS sp (gN l c)))
        have HX2 := Lib.hid (fun n => HX.out.1.drewN n)
        have EPC := Lib.hid epc
        have U4 := Lib.hid u4
        clear epc u4
        by_cases hf : frS sp (gN l pc) < frS sp (gN l c)
        · have hd : decide (cmpI (frS sp (gN l pc)) (frS sp (gN l c)) < 0) = true := by rw [HLT.out]; exact decide_eq_true hf
          have hd2 : cmpI (frS sp (gN l pc)) (frS sp (gN l c)) < 0 := of_decide_eq_true hd
          have HB2 := Lib.hid (show (s = s0 ∨ frS sp (gN l (s - 1)) ≤ frS sp (gN l (mid + m - s))) ∧ (c = r0 ∨ frS sp (gN l (mid + m - 1 - c)) < frS sp (gN l c)) from ⟨HB.out.1, .inr (by rw [EPC.out]; exact hf)⟩)
          clear hf HLT EPC U4
          generalize cmpI (frS sp (gN l pc)) (frS sp (gN l c)) = cc at *
          generalize hgp : gN l pc = gp at cp HC
          generalize hgq : gN l c = gq at cq HC
          clear hgp hgq
          have HBB := Lib.hid HB2
          clear HB2
          go_wp2_with fail
          go_quiet ((go_at_call 21; exact HC.out _))
          go_wp2_with fail
          exact ⟨⟨s, c, rfl, rfl, hs, by omega, by omega, HBB.out, Lib.hid ⟨HX2.out nq, HX.out.2.drewN nq⟩⟩, by simp [intOf]; omega⟩
        · have hd : decide (cmpI (frS sp (gN l pc)) (frS sp (gN l c)) < 0) = false := by rw [HLT.out]; exact decide_eq_false hf
          have hd2 : ¬ cmpI (frS sp (gN l pc)) (frS sp (gN l c)) < 0 := of_decide_eq_false hd
          have HB2 := Lib.hid (show (c + 1 = s0 ∨ frS sp (gN l (c + 1 - 1)) ≤ frS sp (gN l (mid + m - (c + 1)))) ∧ (r = r0 ∨ frS sp (gN l (mid + m - 1 - r)) < frS sp (gN l r)) from ⟨.inr (by rw [U4.out]; exact Int.not_lt.1 hf), HB.out.2⟩)
          clear hf HLT EPC U4
          generalize cmpI (frS sp (gN l pc)) (frS sp (gN l c)) = cc at *
          generalize hgp : gN l pc = gp at cp HC
          generalize hgq : gN l c = gq at cq HC
          clear hgp hgq
          have HBB := Lib.hid HB2
          clear HB2
          go_wp2_with fail
          go_quiet ((go_at_call 21; exact HC.out _))
          go_wp2_with fail
          exact ⟨⟨c + 1, r, rfl, rfl, by omega, by omega, hr, HBB.out, Lib.hid ⟨HX2.out nq, HX.out.2.drewN nq⟩⟩, by simp [intOf]; omega⟩
      · have hse : s = r := by omega
        subst hse
        have n1 : ¬ (s : Int) < (s : Int) := by omega
        obtain ⟨en, een⟩ : ∃ en, mid + m - s = en := ⟨_, rfl⟩
        have HCUT := Lib.hid (show CutAt sp l a m b mid s en from
          ⟨by omega, by omega, by omega, by omega, by omega, fun q1 q2 => by
            rcases HB.out.1 with h | h
            · omega
            · rw [een] at h; exact Int.not_lt.2 h, fun q1 q2 => by
            rcases HB.out.2 with h | h
            · omega
            · rw [show mid + m - 1 - s = en - 1 by omega] at h; exact h⟩)
        have ve : (mid : Int) + (m : Int) - (s : Int) = (en : Int) := by omega
        have v1 : m ≤ en := by omega
        have v2 : en ≤ b := by omega
        have v3 : s ≤ mid := by omega
        have v4 : mid ≤ en := by omega
        have v5 : a ≤ s := by omega
        have v6 : s ≤ m := by omega
        have v7 : s + en = mid + m := by omega
        clear een HB n1
        have n1 : ¬ (s : Int) < (s : Int) := by omega
        have s0z : (0 : Int) ≤ (s : Int) := by omega
        by_cases hrot : s < m ∧ m < en
        · skip
          obtain ⟨hrot1, hrot2⟩ := hrot
          have d1 : decide ((s : Int) < (m : Int)) = true := decide_eq_true (by omega)
          have d2 : decide ((m : Int) < (en : Int)) = true := decide_eq_true (by omega)
          have HRT := Lib.hid (fun ai mi bi ea em eb => rotate_any HX.out.1 hl s m en hrot1 hrot2 (by omega) co ai mi bi ea em eb (.func (.func 21) #[] #[.pointer (some ⟨Bl, 0, none⟩)]))
          go_wp2_with fail
          all_goals
            refine (HRT.out _ _ _ rfl rfl (by omega)).mono ?_
            rintro e w1 ⟨rfl, l1, hR, hW1, hK1⟩
            have HR := Lib.hid hR
            have HW1 := Lib.hid (show OrW w1 Bo Bl A cA sp l1 ∧ Keep W w1 (fun k => k = Bo) from ⟨hW1, HX.out.2.trans hK1 (fun _ _ h => h)⟩)
            have HL1 := Lib.hid (hR.1.length_eq)
            clear hR hW1 hK1 d1 d2
            have P1 := Lib.hid (cut_pre1 HM.out HCUT.out HR.out)
            by_cases hr1 : a < s ∧ s < mid
            · obtain ⟨hr1a, hr1b⟩ := hr1
              have b1 : decide ((a : Int) < (s : Int)) = true := decide_eq_true (by omega)
              have b2 : decide ((s : Int) < (mid : Int)) = true := decide_eq_true (by omega)
              have HI1 := Lib.hid (fun ai mi bi ea em eb => HIH.out w1 l1 a s mid (by omega) HW1.out.1 HL1.out (by omega) ⟨P1.out.1, P1.out.2.1, P1.out.2.2, hr1a, hr1b⟩ ai mi bi ea em eb)
              go_wp2_with fail
              all_goals
                refine (HI1.out _ _ _ rfl rfl rfl).mono ?_
                rintro e w2 ⟨rfl, l2, hS2, hW2, hK2⟩
                have HS2 := Lib.hid hS2
                have HW2 := Lib.hid (show OrW w2 Bo Bl A cA sp l2 ∧ Keep W w2 (fun k => k = Bo) from ⟨hW2, HW1.out.2.trans hK2 (fun _ _ h => h)⟩)
                have HL2 := Lib.hid (hS2.1.length_eq.trans HL1.out)
                clear hS2 hW2 hK2
                have P2 := Lib.hid (cut_pre2 HM.out HCUT.out HR.out (fun p hp => HS2.out.2.1 p (.inr hp)))
                by_cases hr2 : mid < en ∧ en < b
                · obtain ⟨hr2a, hr2b⟩ := hr2
                  have b3 : decide ((mid : Int) < (en : Int)) = true := decide_eq_true (by omega)
                  have b4 : decide ((en : Int) < (b : Int)) = true := decide_eq_true (by omega)
                  have HI2 := Lib.hid (fun ai mi bi ea em eb => HIH.out w2 l2 mid en b (by omega) HW2.out.1 HL2.out hb ⟨P2.out.1, P2.out.2.1, P2.out.2.2, hr2a, hr2b⟩ ai mi bi ea em eb)
                  go_wp2_with fail
                  all_goals
                    refine (HI2.out _ _ _ rfl (by omega) rfl).mono ?_
                    rintro e w3 ⟨rfl, l3, hS3, hW3, hK3⟩
                    have HE := Lib.hid (show SortP W Bo Bl A cA sp l a b (.returned (.tuple #[])) w3 from ⟨rfl, l3, cut_join HM.out HCUT.out HR.out HS2.out hS3, hW3, HW2.out.2.trans hK3 (fun _ _ h => h)⟩)
                    clear hS3 hW3 hK3
                    go_wp2_with fail
                    go_end0
                    exact HE.out
                · have HS3 := Lib.hid (show SortR sp l2 mid b l2 from SortR.refl (by
                      rcases Nat.lt_or_ge mid en with hh | hh
                      · have hh2 : en = b := by omega
                        have := P2.out.1; rw [hh2] at this; exact this
                      · have hh2 : en = mid := by omega
                        have := P2.out.2.1; rw [hh2] at this; exact this))
                  have HE := Lib.hid (show SortP W Bo Bl A cA sp l a b (.returned (.tuple #[])) w2 from ⟨rfl, l2, cut_join HM.out HCUT.out HR.out HS2.out HS3.out, HW2.out⟩)
                  by_cases hme : mid < en
                  · have b3 : decide ((mid : Int) < (en : Int)) = true := decide_eq_true (by omega)
                    have b4 : decide ((en : Int) < (b : Int)) = false := decide_eq_false (by omega)
                    go_wp2_with fail
                    all_goals (go_end0; exact HE.out)
                  · have b3 : decide ((mid : Int) < (en : Int)) = false := decide_eq_false (by omega)
                    go_wp2_with fail
                    all_goals (go_end0; exact HE.out)
            · have HS2 := Lib.hid (show SortR sp l1 a mid l1 from SortR.refl (by
                  rcases Nat.lt_or_ge a s with hh | hh
                  · have hh2 : s = mid := by omega
                    have := P1.out.1; rw [hh2] at this; exact this
                  · have hh2 : s = a := by omega
                    have := P1.out.2.1; rw [hh2] at this; exact this))
              have HW2 := HW1
              by_cases has : a < s
              · have b1 : decide ((a : Int) < (s : Int)) = true := decide_eq_true (by omega)
                have b2 : decide ((s : Int) < (mid : Int)) = false := decide_eq_false (by omega)
                have P2 := Lib.hid (cut_pre2 HM.out HCUT.out HR.out (fun p hp => HS2.out.2.1 p (.inr hp)))
                by_cases hr2 : mid < en ∧ en < b
                · obtain ⟨hr2a, hr2b⟩ := hr2
                  have b3 : decide ((mid : Int) < (en : Int)) = true := decide_eq_true (by omega)
                  have b4 : decide ((en : Int) < (b : Int)) = true := decide_eq_true (by omega)
                  have HI2 := Lib.hid (fun ai mi bi ea em eb => HIH.out w1 l1 mid en b (by omega) HW2.out.1 HL1.out hb ⟨P2.out.1, P2.out.2.1, P2.out.2.2, hr2a, hr2b⟩ ai mi bi ea em eb)
                  go_wp2_with fail
                  all_goals
                    refine (HI2.out _ _ _ rfl (by omega) rfl).mono ?_
                    rintro e w3 ⟨rfl, l3, hS3, hW3, hK3⟩
                    have HE := Lib.hid (show SortP W Bo Bl A cA sp l a b (.returned (.tuple #[])) w3 from ⟨rfl, l3, cut_join HM.out HCUT.out HR.out HS2.out hS3, hW3, HW2.out.2.trans hK3 (fun _ _ h => h)⟩)
                    clear hS3 hW3 hK3
                    go_wp2_with fail
                    go_end0
                    exact HE.out
                · have HS3 := Lib.hid (show SortR sp l1 mid b l1 from SortR.refl (by
                      rcases Nat.lt_or_ge mid en with hh | hh
                      · have hh2 : en = b := by omega
                        have := P2.out.1; rw [hh2] at this; exact this
                      · have hh2 : en = mid := by omega
                        have := P2.out.2.1; rw [hh2] at this; exact this))
                  have HE := Lib.hid (show SortP W Bo Bl A cA sp l a b (.returned (.tuple #[])) w1 from ⟨rfl, l1, cut_join HM.out HCUT.out HR.out HS2.out HS3.out, HW2.out⟩)
                  by_cases hme : mid < en
                  · have b3 : decide ((mid : Int) < (en : Int)) = true := decide_eq_true (by omega)
                    have b4 : decide ((en : Int) < (b : Int)) = false := decide_eq_false (by omega)
                    go_wp2_with fail
                    all_goals (go_end0; exact HE.out)
                  · have b3 : decide ((mid : Int) < (en : Int)) = false := decide_eq_false (by omega)
                    go_wp2_with fail
                    all_goals (go_end0; exact HE.out)
              · have b1 : decide ((a : Int) < (s : Int)) = false := decide_eq_false (by omega)
                have P2 := Lib.hid (cut_pre2 HM.out HCUT.out HR.out (fun p hp => HS2.out.2.1 p (.inr hp)))
                by_cases hr2 : mid < en ∧ en < b
                · obtain ⟨hr2a, hr2b⟩ := hr2
                  have b3 : decide ((mid : Int) < (en : Int)) = true := decide_eq_true (by omega)
                  have b4 : decide ((en : Int) < (b : Int)) = true := decide_eq_true (by omega)
                  have HI2 := Lib.hid (fun ai mi bi ea em eb => HIH.out w1 l1 mid en b (by omega) HW2.out.1 HL1.out hb ⟨P2.out.1, P2.out.2.1, P2.out.2.2, hr2a, hr2b⟩ ai mi bi ea em eb)
                  go_wp2_with fail
                  all_goals
                    refine (HI2.out _ _ _ rfl (by omega) rfl).mono ?_
                    rintro e w3 ⟨rfl, l3, hS3, hW3, hK3⟩
                    have HE := Lib.hid (show SortP W Bo Bl A cA sp l a b (.returned (.tuple #[])) w3 from ⟨rfl, l3, cut_join HM.out HCUT.out HR.out HS2.out hS3, hW3, HW2.out.2.trans hK3 (fun _ _ h => h)⟩)
                    clear hS3 hW3 hK3
                    go_wp2_with fail
                    go_end0
                    exact HE.out
                · have HS3 := Lib.hid (show SortR sp l1 mid b l1 from SortR.refl (by
                      rcases Nat.lt_or_ge mid en with hh | hh
                      · have hh2 : en = b := by omega
                        have := P2.out.1; rw [hh2] at this; exact this
                      · have hh2 : en = mid := by omega
                        have := P2.out.2.1; rw [hh2] at this; exact this))
                  have HE := Lib.hid (show SortP W Bo Bl A cA sp l a b (.returned (.tuple #[])) w1 from ⟨rfl, l1, cut_join HM.out HCUT.out HR.out HS2.out HS3.out, HW2.out⟩)
                  by_cases hme : mid < en
                  · have b3 : decide ((mid : Int) < (en : Int)) = true := decide_eq_true (by omega)
                    have b4 : decide ((en : Int) < (b : Int)) = false := decide_eq_false (by omega)
                    go_wp2_with fail
                    all_goals (go_end0; exact HE.out)
                  · have b3 : decide ((mid : Int) < (en : Int)) = false := decide_eq_false (by omega)
                    go_wp2_with fail
                    all_goals (go_end0; exact HE.out)
        · skip
          have HR := Lib.hid (RotR.same (l := l) (s := s) (m := m) (e := en) (by omega) v6 v1)
          have HW1 := HX
          obtain ⟨dd1, hdd1⟩ : ∃ d, decide ((s : Int) < (m : Int)) = d := ⟨_, rfl⟩
          by_cases hsm : s < m
          · have d1 : decide ((s : Int) < (m : Int)) = true := decide_eq_true (by omega)
            have d2 : decide ((m : Int) < (en : Int)) = false := decide_eq_false (by omega)
            have P1 := Lib.hid (cut_pre1 HM.out HCUT.out HR.out)
            by_cases hr1 : a < s ∧ s < mid
            · obtain ⟨hr1a, hr1b⟩ := hr1
              have b1 : decide ((a : Int) < (s : Int)) = true := decide_eq_true (by omega)
              have b2 : decide ((s : Int) < (mid : Int)) = true := decide_eq_true (by omega)
              have HI1 := Lib.hid (fun ai mi bi ea em eb => HIH.out wr l a s mid (by omega) HW1.out.1 rfl (by omega) ⟨P1.out.1, P1.out.2.1, P1.out.2.2, hr1a, hr1b⟩ ai mi bi ea em eb)
              go_wp2_with fail
              all_goals
                refine (HI1.out _ _ _ rfl rfl rfl).mono ?_
                rintro e w2 ⟨rfl, l2, hS2, hW2, hK2⟩
                have HS2 := Lib.hid hS2
                have HW2 := Lib.hid (show OrW w2 Bo Bl A cA sp l2 ∧ Keep W w2 (fun k => k = Bo) from ⟨hW2, HW1.out.2.trans hK2 (fun _ _ h => h)⟩)
                have HL2 := Lib.hid (hS2.1.length_eq.trans (Eq.refl l.length))
                clear hS2 hW2 hK2
                have P2 := Lib.hid (cut_pre2 HM.out HCUT.out HR.out (fun p hp => HS2.out.2.1 p (.inr hp)))
                by_cases hr2 : mid < en ∧ en < b
                · obtain ⟨hr2a, hr2b⟩ := hr2
                  have b3 : decide ((mid : Int) < (en : Int)) = true := decide_eq_true (by omega)
                  have b4 : decide ((en : Int) < (b : Int)) = true := decide_eq_true (by omega)
                  have HI2 := Lib.hid (fun ai mi bi ea em eb => HIH.out w2 l2 mid en b (by omega) HW2.out.1 HL2.out hb ⟨P2.out.1, P2.out.2.1, P2.out.2.2, hr2a, hr2b⟩ ai mi bi ea em eb)
                  go_wp2_with fail
                  all_goals
                    refine (HI2.out _ _ _ rfl (by omega) rfl).mono ?_
                    rintro e w3 ⟨rfl, l3, hS3, hW3, hK3⟩
                    have HE := Lib.hid (show SortP W Bo Bl A cA sp l a b (.returned (.tuple #[])) w3 from ⟨rfl, l3, cut_join HM.out HCUT.out HR.out HS2.out hS3, hW3, HW2.out.2.trans hK3 (fun _ _ h => h)⟩)
                    clear hS3 hW3 hK3
                    go_wp2_with fail
                    go_end0
                    exact HE.out
                · have HS3 := Lib.hid (show SortR sp l2 mid b l2 from SortR.refl (by
                      rcases Nat.lt_or_ge mid en with hh | hh
                      · have hh2 : en = b := by omega
                        have := P2.out.1; rw [hh2] at this; exact this
                      · have hh2 : en = mid := by omega
                        have := P2.out.2.1; rw [hh2] at this; exact this))
                  have HE := Lib.hid (show SortP W Bo Bl A cA sp l a b (.returned (.tuple #[])) w2 from ⟨rfl, l2, cut_join HM.out HCUT.out HR.out HS2.out HS3.out, HW2.out⟩)
                  by_cases hme : mid < en
                  · have b3 : decide ((mid : Int) < (en : Int)) = true := decide_eq_true (by omega)
                    have b4 : decide ((en : Int) < (b : Int)) = false := decide_eq_false (by omega)
                    go_wp2_with fail
                    all_goals (go_end0; exact HE.out)
                  · have b3 : decide ((mid : Int) < (en : Int)) = false := decide_eq_false (by omega)
                    go_wp2_with fail
                    all_goals (go_end0; exact HE.out)
            · have HS2 := Lib.hid (show SortR sp l a mid l from SortR.refl (by
                  rcases Nat.lt_or_ge a s with hh | hh
                  · have hh2 : s = mid := by omega
                    have := P1.out.1; rw [hh2] at this; exact this
                  · have hh2 : s = a := by omega
                    have := P1.out.2.1; rw [hh2] at this; exact this))
              have HW2 := HW1
              by_cases has : a < s
              · have b1 : decide ((a : Int) < (s : Int)) = true := decide_eq_true (by omega)
                have b2 : decide ((s : Int) < (mid : Int)) = false := decide_eq_false (by omega)
                have P2 := Lib.hid (cut_pre2 HM.out HCUT.out HR.out (fun p hp => HS2.out.2.1 p (.inr hp)))
                by_cases hr2 : mid < en ∧ en < b
                · obtain ⟨hr2a, hr2b⟩ := hr2
                  have b3 : decide ((mid : Int) < (en : Int)) = true := decide_eq_true (by omega)
                  have b4 : decide ((en : Int) < (b : Int)) = true := decide_eq_true (by omega)
                  have HI2 := Lib.hid (fun ai mi bi ea em eb => HIH.out wr l mid en b (by omega) HW2.out.1 rfl hb ⟨P2.out.1, P2.out.2.1, P2.out.2.2, hr2a, hr2b⟩ ai mi bi ea em eb)
                  go_wp2_with fail
                  all_goals
                    refine (HI2.out _ _ _ rfl (by omega) rfl).mono ?_
                    rintro e w3 ⟨rfl, l3, hS3, hW3, hK3⟩
                    have HE := Lib.hid (show SortP W Bo Bl A cA sp l a b (.returned (.tuple #[])) w3 from ⟨rfl, l3, cut_join HM.out HCUT.out HR.out HS2.out hS3, hW3, HW2.out.2.trans hK3 (fun _ _ h => h)⟩)
                    clear hS3 hW3 hK3
                    go_wp2_with fail
                    go_end0
                    exact HE.out
                · have HS3 := Lib.hid (show SortR sp l mid b l from SortR.refl (by
                      rcases Nat.lt_or_ge mid en with hh | hh
                      · have hh2 : en = b := by omega
                        have := P2.out.1; rw [hh2] at this; exact this
                      · have hh2 : en = mid := by omega
                        have := P2.out.2.1; rw [hh2] at this; exact this))
                  have HE := Lib.hid (show SortP W Bo Bl A cA sp l a b (.returned (.tuple #[])) wr from ⟨rfl, l, cut_join HM.out HCUT.out HR.out HS2.out HS3.out, HW2.out⟩)
                  by_cases hme : mid < en
                  · have b3 : decide ((mid : Int) < (en : Int)) = true := decide_eq_true (by omega)
                    have b4 : decide ((en : Int) < (b : Int)) = false := decide_eq_false (by omega)
                    go_wp2_with fail
                    all_goals (go_end0; exact HE.out)
                  · have b3 : decide ((mid : Int) < (en : Int)) = false := decide_eq_false (by omega)
                    go_wp2_with fail
                    all_goals (go_end0; exact HE.out)
              · have b1 : decide ((a : Int) < (s : Int)) = false := decide_eq_false (by omega)
                have P2 := Lib.hid (cut_pre2 HM.out HCUT.out HR.out (fun p hp => HS2.out.2.1 p (.inr hp)))
                by_cases hr2 : mid < en ∧ en < b
                · obtain ⟨hr2a, hr2b⟩ := hr2
                  have b3 : decide ((mid : Int) < (en : Int)) = true := decide_eq_true (by omega)
                  have b4 : decide ((en : Int) < (b : Int)) = true := decide_eq_true (by omega)
                  have HI2 := Lib.hid (fun ai mi bi ea em eb => HIH.out wr l mid en b (by omega) HW2.out.1 rfl hb ⟨P2.out.1, P2.out.2.1, P2.out.2.2, hr2a, hr2b⟩ ai mi bi ea em eb)
                  go_wp2_with fail
                  all_goals
                    refine (HI2.out _ _ _ rfl (by omega) rfl).mono ?_
                    rintro e w3 ⟨rfl, l3, hS3, hW3, hK3⟩
                    have HE := Lib.hid (show SortP W Bo Bl A cA sp l a b (.returned (.tuple #[])) w3 from ⟨rfl, l3, cut_join HM.out HCUT.out HR.out HS2.out hS3, hW3, HW2.out.2.trans hK3 (fun _ _ h => h)⟩)
                    clear hS3 hW3 hK3
                    go_wp2_with fail
                    go_end0
                    exact HE.out
                · have HS3 := Lib.hid (show SortR sp l mid b l from SortR.refl (by
                      rcases Nat.lt_or_ge mid en with hh | hh
                      · have hh2 : en = b := by omega
                        have := P2.out.1; rw [hh2] at this; exact this
                      · have hh2 : en = mid := by omega
                        have := P2.out.2.1; rw [hh2] at this; exact this))
                  have HE := Lib.hid (show SortP W Bo Bl A cA sp l a b (.returned (.tuple #[])) wr from ⟨rfl, l, cut_join HM.out HCUT.out HR.out HS2.out HS3.out, HW2.out⟩)
                  by_cases hme : mid < en
                  · have b3 : decide ((mid : Int) < (en : Int)) = true := decide_eq_true (by omega)
                    have b4 : decide ((en : Int) < (b : Int)) = false := decide_eq_false (by omega)
                    go_wp2_with fail
                    all_goals (go_end0; exact HE.out)
                  · have b3 : decide ((mid : Int) < (en : Int)) = false := decide_eq_false (by omega)
                    go_wp2_with fail
                    all_goals (go_end0; exact HE.out)
          · have d1 : decide ((s : Int) < (m : Int)) = false := decide_eq_false (by omega)
            have P1 := Lib.hid (cut_pre1 HM.out HCUT.out HR.out)
            by_cases hr1 : a < s ∧ s < mid
            · obtain ⟨hr1a, hr1b⟩ := hr1
              have b1 : decide ((a : Int) < (s : Int)) = true := decide_eq_true (by omega)
              have b2 : decide ((s : Int) < (mid : Int)) = true := decide_eq_true (by omega)
              have HI1 := Lib.hid (fun ai mi bi ea em eb => HIH.out wr l a s mid (by omega) HW1.out.1 rfl (by omega) ⟨P1.out.1, P1.out.2.1, P1.out.2.2, hr1a, hr1b⟩ ai mi bi ea em eb)
              go_wp2_with fail
              all_goals
                refine (HI1.out _ _ _ rfl rfl rfl).mono ?_
                rintro e w2 ⟨rfl, l2, hS2, hW2, hK2⟩
                have HS2 := Lib.hid hS2
                have HW2 := Lib.hid (show OrW w2 Bo Bl A cA sp l2 ∧ Keep W w2 (fun k => k = Bo) from ⟨hW2, HW1.out.2.trans hK2 (fun _ _ h => h)⟩)
                have HL2 := Lib.hid (hS2.1.length_eq.trans (Eq.refl l.length))
                clear hS2 hW2 hK2
                have P2 := Lib.hid (cut_pre2 HM.out HCUT.out HR.out (fun p hp => HS2.out.2.1 p (.inr hp)))
                by_cases hr2 : mid < en ∧ en < b
                · obtain ⟨hr2a, hr2b⟩ := hr2
                  have b3 : decide ((mid : Int) < (en : Int)) = true := decide_eq_true (by omega)
                  have b4 : decide ((en : Int) < (b : Int)) = true := decide_eq_true (by omega)
                  have HI2 := Lib.hid (fun ai mi bi ea em eb => HIH.out w2 l2 mid en b (by omega) HW2.out.1 HL2.out hb ⟨P2.out.1, P2.out.2.1, P2.out.2.2, hr2a, hr2b⟩ ai mi bi ea em eb)
                  go_wp2_with fail
                  all_goals
                    refine (HI2.out _ _ _ rfl (by omega) rfl).mono ?_
                    rintro e w3 ⟨rfl, l3, hS3, hW3, hK3⟩
                    have HE := Lib.hid (show SortP W Bo Bl A cA sp l a b (.returned (.tuple #[])) w3 from ⟨rfl, l3, cut_join HM.out HCUT.out HR.out HS2.out hS3, hW3, HW2.out.2.trans hK3 (fun _ _ h => h)⟩)
                    clear hS3 hW3 hK3
                    go_wp2_with fail
                    go_end0
                    exact HE.out
                · have HS3 := Lib.hid (show SortR sp l2 mid b l2 from SortR.refl (by
                      rcases Nat.lt_or_ge mid en with hh | hh
                      · have hh2 : en = b := by omega
                        have := P2.out.1; rw [hh2] at this; exact this
                      · have hh2 : en = mid := by omega
                        have := P2.out.2.1; rw [hh2] at this; exact this))
                  have HE := Lib.hid (show SortP W Bo Bl A cA sp l a b (.returned (.tuple #[])) w2 from ⟨rfl, l2, cut_join HM.out HCUT.out HR.out HS2.out HS3.out, HW2.out⟩)
                  by_cases hme : mid < en
                  · have b3 : decide ((mid : Int) < (en : Int)) = true := decide_eq_true (by omega)
                    have b4 : decide ((en : Int) < (b : Int)) = false := decide_eq_false (by omega)
                    go_wp2_with fail
                    all_goals (go_end0; exact HE.out)
                  · have b3 : decide ((mid : Int) < (en : Int)) = false := decide_eq_false (by omega)
                    go_wp2_with fail
                    all_goals (go_end0; exact HE.out)
            · have HS2 := Lib.hid (show SortR sp l a mid l from SortR.refl (by
                  rcases Nat.lt_or_ge a s with hh | hh
                  · have hh2 : s = mid := by omega
                    have := P1.out.1; rw [hh2] at this; exact this
                  · have hh2 : s = a := by omega
                    have := P1.out.2.1; rw [hh2] at this; exact this))
              have HW2 := HW1
              by_cases has : a < s
              · have b1 : decide ((a : Int) < (s : Int)) = true := decide_eq_true (by omega)
                have b2 : decide ((s : Int) < (mid : Int)) = false := decide_eq_false (by omega)
                have P2 := Lib.hid (cut_pre2 HM.out HCUT.out HR.out (fun p hp => HS2.out.2.1 p (.inr hp)))
                by_cases hr2 : mid < en ∧ en < b
                · obtain ⟨hr2a, hr2b⟩ := hr2
                  have b3 : decide ((mid : Int) < (en : Int)) = true := decide_eq_true (by omega)
                  have b4 : decide ((en : Int) < (b : Int)) = true := decide_eq_true (by omega)
                  have HI2 := Lib.hid (fun ai mi bi ea em eb => HIH.out wr l mid en b (by omega) HW2.out.1 rfl hb ⟨P2.out.1, P2.out.2.1, P2.out.2.2, hr2a, hr2b⟩ ai mi bi ea em eb)
                  go_wp2_with fail
                  all_goals
                    refine (HI2.out _ _ _ rfl (by omega) rfl).mono ?_
                    rintro e w3 ⟨rfl, l3, hS3, hW3, hK3⟩
                    have HE := Lib.hid (show SortP W Bo Bl A cA sp l a b (.returned (.tuple #[])) w3 from ⟨rfl, l3, cut_join HM.out HCUT.out HR.out HS2.out hS3, hW3, HW2.out.2.trans hK3 (fun _ _ h => h)⟩)
                    clear hS3 hW3 hK3
                    go_wp2_with fail
                    go_end0
                    exact HE.out
                · have HS3 := Lib.hid (show SortR sp l mid b l from SortR.refl (by
                      rcases Nat.lt_or_ge mid en with hh | hh
                      · have hh2 : en = b := by omega
                        have := P2.out.1; rw [hh2] at this; exact this
                      · have hh2 : en = mid := by omega
                        have := P2.out.2.1; rw [hh2] at this; exact this))
                  have HE := Lib.hid (show SortP W Bo Bl A cA sp l a b (.returned (.tuple #[])) wr from ⟨rfl, l, cut_join HM.out HCUT.out HR.out HS2.out HS3.out, HW2.out⟩)
                  by_cases hme : mid < en
                  · have b3 : decide ((mid : Int) < (en : Int)) = true := decide_eq_true (by omega)
                    have b4 : decide ((en : Int) < (b : Int)) = false := decide_eq_false (by omega)
                    go_wp2_with fail
                    all_goals (go_end0; exact HE.out)
                  · have b3 : decide ((mid : Int) < (en : Int)) = false := decide_eq_false (by omega)
                    go_wp2_with fail
                    all_goals (go_end0; exact HE.out)
              · have b1 : decide ((a : Int) < (s : Int)) = false := decide_eq_false (by omega)
                have P2 := Lib.hid (cut_pre2 HM.out HCUT.out HR.out (fun p hp => HS2.out.2.1 p (.inr hp)))
                by_cases hr2 : mid < en ∧ en < b
                · obtain ⟨hr2a, hr2b⟩ := hr2
                  have b3 : decide ((mid : Int) < (en : Int)) = true := decide_eq_true (by omega)
                  have b4 : decide ((en : Int) < (b : Int)) = true := decide_eq_true (by omega)
                  have HI2 := Lib.hid (fun ai mi bi ea em eb => HIH.out wr l mid en b (by omega) HW2.out.1 rfl hb ⟨P2.out.1, P2.out.2.1, P2.out.2.2, hr2a, hr2b⟩ ai mi bi ea em eb)
                  go_wp2_with fail
                  all_goals
                    refine (HI2.out _ _ _ rfl (by omega) rfl).mono ?_
                    rintro e w3 ⟨rfl, l3, hS3, hW3, hK3⟩
                    have HE := Lib.hid (show SortP W Bo Bl A cA sp l a b (.returned (.tuple #[])) w3 from ⟨rfl, l3, cut_join HM.out HCUT.out HR.out HS2.out hS3, hW3, HW2.out.2.trans hK3 (fun _ _ h => h)⟩)
                    clear hS3 hW3 hK3
                    go_wp2_with fail
                    go_end0
                    exact HE.out
                · have HS3 := Lib.hid (show SortR sp l mid b l from SortR.refl (by
                      rcases Nat.lt_or_ge mid en with hh | hh
                      · have hh2 : en = b := by omega
                        have := P2.out.1; rw [hh2] at this; exact this
                      · have hh2 : en = mid := by omega
                        have := P2.out.2.1; rw [hh2] at this; exact this))
                  have HE := Lib.hid (show SortP W Bo Bl A cA sp l a b (.returned (.tuple #[])) wr from ⟨rfl, l, cut_join HM.out HCUT.out HR.out HS2.out HS3.out, HW2.out⟩)
                  by_cases hme : mid < en
                  · have b3 : decide ((mid : Int) < (en : Int)) = true := decide_eq_true (by omega)
                    have b4 : decide ((en : Int) < (b : Int)) = false := decide_eq_false (by omega)
                    go_wp2_with fail
                    all_goals (go_end0; exact HE.out)
                  · have b3 : decide ((mid : Int) < (en : Int)) = false := decide_eq_false (by omega)
                    go_wp2_with fail
                    all_goals (go_end0; exact HE.out)
theorem symMerge_any (hsp : sp.length ≤ 1000000) (L co : Nat) (hL : L ≤ 1000000) : ∀ N, SymSaid Bo Bl A cA sp L co N := by
  intro N
  induction N with
  | zero => intro W l a m b hN; omega
  | succ N ih =>
    intro W l a m b hN h hl hb hM ai mi bi ea em eb
    subst hl
    have ham := hM.am
    have hmb := hM.mb
    by_cases h1 : m = a + 1
    · subst h1
      exact sym_left h hL hsp a b hb hM co ai mi bi ea (by omega) eb
    · by_cases h2 : b = m + 1
      · subst h2
        exact sym_right h hL hsp a m hb hM h1 co ai mi bi ea em (by omega)
      · subst ea em eb
        exact sym_mid h hL hsp a m b hb hM h1 h2 co (fun W' l' a' m' b' hN' => ih W' l' a' m' b' (by omega))
end
end Go.Proofs.YtfgdkeomjplnnaaDoor

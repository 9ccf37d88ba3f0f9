/- container/heap's down, Init, over the allocator's row. Conditions: sizes. -/
import Derived.Test.YtfgdkeomjplnnaaDoorAlB
namespace Go.Proofs.YtfgdkeomjplnnaaDoor
set_option linter.unusedVariables false
open Go.RowKit
attribute [local irreducible] Blk
theorem len_240 {w : World} {b : Nat} {ev : Value} (h : w.cell? ⟨b, 0, none⟩ = some ev) : (method 240 75 (.pointer (some ⟨b, 0, none⟩)) "Len").run Tryd.prog w = .ok (102, ev) w := len_m h 239
theorem less_240 {w : World} {b : Nat} {ev : Value} (h : w.cell? ⟨b, 0, none⟩ = some ev) : (method 240 75 (.pointer (some ⟨b, 0, none⟩)) "Less").run Tryd.prog w = .ok (40, ev) w := less_m h 239
theorem swap_240 {w : World} {b : Nat} {ev : Value} (h : w.cell? ⟨b, 0, none⟩ = some ev) : (method 240 75 (.pointer (some ⟨b, 0, none⟩)) "Swap").run Tryd.prog w = .ok (105, ev) w := swap_m h 239
theorem push_240 {w : World} {a : Addr} : (method 240 75 (.pointer (some a)) "Push").run Tryd.prog w = .ok (104, .pointer (some a)) w := push_m 239
theorem pop_240 {w : World} {a : Addr} : (method 240 75 (.pointer (some a)) "Pop").run Tryd.prog w = .ok (103, .pointer (some a)) w := pop_m 239
def DownP (B0 : Nat) (W : World) (Ba Bh : Nat) (ev : Value) (es : List Hd) (fr : Nat) (hs : List Hm) (sl i0 n : Nat) (e : Ending) (w' : World) : Prop :=
  ∃ b es', e = .returned (.bool b) ∧ DownQ i0 n es es' ∧ AlP B0 W Ba Bh ev es' fr hs sl w'
set_option maxRecDepth 100000 in
set_option maxHeartbeats 3200000 in
theorem down_any {B0 : Nat} {W : World} {Ba Bh : Nat} {ev : Value} {es : List Hd} {fr : Nat} {hs : List Hm} {sl : Nat} (h : AlW B0 W Ba Bh ev es fr hs sl) (hl : es.length ≤ 1000) (i0 n : Nat) (hi0 : i0 ≤ 1000) (hn : n ≤ es.length) :
    Calls Tryd.prog 52 #[.iface 75 (.pointer (some ⟨Ba, 0, none⟩)), .int .i64 (i0 : Int), .int .i64 (n : Int)] W (DownP B0 W Ba Bh ev es fr hs sl i0 n) := by
  have H := Lib.hid h
  clear h
  go_enter Tryd.func52, Tryd.ntmps52
  go_wp2_with fail
  go_loopw [7] (fun iv wr => ∃ (i : Nat) (m : List Hd), iv = .int .i64 (i : Int) ∧ i ≤ 1000 ∧ Hid (DownI i0 n i es m) ∧ Hid (AlP B0 W Ba Bh ev m fr hs sl wr)) (fun iv _ => n - (intOf iv).toNat)
  case atStart => exact ⟨i0, es, rfl, hi0, Lib.hid (DownI.start i0 n es), Lib.hid ⟨H.out, Frm.refl _ _ _ _ _⟩⟩
  case round =>
    obtain ⟨i, m, rfl, hi, HI, HA⟩ := hrel
    have hml : m.length = es.length := HI.out.perm.length_eq
    have HML := Lib.hid hml
    have hn2 : n ≤ m.length := by omega
    have hm3 : m.length ≤ 1000 := by omega
    clear hml
    have i00 : (0 : Int) ≤ (i : Int) := by omega
    by_cases h1 : 2 * i + 1 < n
    · obtain ⟨x, hx⟩ : ∃ x, m[i]? = some x := ⟨m[i], List.getElem?_eq_getElem (by omega)⟩
      obtain ⟨y1, hy1⟩ : ∃ y, m[2 * i + 1]? = some y := ⟨m[2 * i + 1], List.getElem?_eq_getElem (by omega)⟩
      have g1 : decide (2 * (i : Int) + 1 ≥ (n : Int)) = false := decide_eq_false (by omega)
      have g2 : decide (2 * (i : Int) + 1 < 0) = false := decide_eq_false (by omega)
      have k1 : ¬ (2 * (i : Int) + 1 ≥ (n : Int)) := by omega
      have k2 : ¬ (2 * (i : Int) + 1 < 0) := by omega
      have k3 : 2 * (i : Int) + 1 < (n : Int) := by omega
      have c0 := HA.out.1.facts.1
      have hm := less_240 c0
      by_cases h2 : 2 * i + 2 < n
      · obtain ⟨y2, hy2⟩ : ∃ y, m[2 * i + 2]? = some y := ⟨m[2 * i + 2], List.getElem?_eq_getElem (by omega)⟩
        have g3 : decide (2 * (i : Int) + 1 + 1 < (n : Int)) = true := decide_eq_true (by omega)
        have k4 : 2 * (i : Int) + 1 + 1 < (n : Int) := by omega
        have HL := Lib.hid (less_al HA.out.1 (by omega) (2 * i + 2) (2 * i + 1) y2 y1 hy2 hy1)
        have HX := Lib.hid hx
        have HY1 := Lib.hid hy1
        have HY2 := Lib.hid hy2
        clear hx hy1 hy2
        cases hlo : lo y2 y1 with
        | true =>
          rw [hlo] at HL
          have HLO := Lib.hid hlo
          clear hlo
          go_wp2_with fail
          refine (HL.out _ _ (by omega) (by omega)).mono ?_
          rintro e w2 ⟨rfl, hA2⟩
          have HA2 := Lib.hid hA2
          clear hA2 hm c0
          have c0 := HA2.out.1.facts.1
          have hm := less_240 c0
          have HL2 := Lib.hid (less_al HA2.out.1 (by omega) (2 * i + 2) i y2 x HY2.out HX.out)
          cases hlo2 : lo y2 x with
          | true =>
            rw [hlo2] at HL2
            have HLO2 := Lib.hid hlo2
            clear hlo2
            go_wp2_with fail
            refine (HL2.out _ _ (by omega) (by omega)).mono ?_
            rintro e w3 ⟨rfl, hA3⟩
            have HA3 := Lib.hid hA3
            clear hA3 hm c0
            have c0 := HA3.out.1.facts.1
            have hm := swap_240 c0
            go_wp2_with fail
            refine (swap_al HA3.out.1 (by omega) i (2 * i + 2) x y2 HX.out HY2.out (by omega) _ _ (by omega) (by omega)).mono ?_
            rintro e w4 ⟨rfl, hA4⟩
            have HA4 := Lib.hid hA4
            clear hA4 hm c0
            go_wp2_with fail
            refine ⟨⟨2 * i + 2, _, congrArg (Value.int .i64) (by omega), by omega, Lib.hid (HI.out.step HX.out HY2.out (.inr rfl) h2 HLO2.out (fun c hc hcn => ?_)), Lib.hid ⟨HA4.out.1, ((HA.out.2.trans HA2.out.2).trans HA3.out.2).trans HA4.out.2⟩⟩, by simp [intOf]; omega⟩
            rcases hc with rfl | rfl
            · rw [gd_of HY1.out]; exact lo_asym HLO.out
            · rw [gd_of HY2.out]; exact lo_self _
          | false =>
            rw [hlo2] at HL2
            have HLO2 := Lib.hid hlo2
            clear hlo2
            go_wp2_with fail
            refine (HL2.out _ _ (by omega) (by omega)).mono ?_
            rintro e w3 ⟨rfl, hA3⟩
            have HA3 := Lib.hid hA3
            clear hA3 hm c0
            go_wp2_with fail
            go_ret
            refine ⟨_, m, rfl, HI.out.stop (fun c hc hcn => ?_), HA3.out.1, (HA.out.2.trans HA2.out.2).trans HA3.out.2⟩
            rw [gd_of HX.out]
            rcases hc with rfl | rfl
            · rw [gd_of HY1.out]; exact lo_trans (lo_asym HLO.out) HLO2.out
            · rw [gd_of HY2.out]; exact HLO2.out
        | false =>
          rw [hlo] at HL
          have HLO := Lib.hid hlo
          clear hlo
          go_wp2_with fail
          refine (HL.out _ _ (by omega) (by omega)).mono ?_
          rintro e w2 ⟨rfl, hA2⟩
          have HA2 := Lib.hid hA2
          clear hA2 hm c0
          have c0 := HA2.out.1.facts.1
          have hm := less_240 c0
          have HL2 := Lib.hid (less_al HA2.out.1 (by omega) (2 * i + 1) i y1 x HY1.out HX.out)
          cases hlo2 : lo y1 x with
          | true =>
            rw [hlo2] at HL2
            have HLO2 := Lib.hid hlo2
            clear hlo2
            go_wp2_with fail
            refine (HL2.out _ _ (by omega) (by omega)).mono ?_
            rintro e w3 ⟨rfl, hA3⟩
            have HA3 := Lib.hid hA3
            clear hA3 hm c0
            have c0 := HA3.out.1.facts.1
            have hm := swap_240 c0
            go_wp2_with fail
            refine (swap_al HA3.out.1 (by omega) i (2 * i + 1) x y1 HX.out HY1.out (by omega) _ _ (by omega) (by omega)).mono ?_
            rintro e w4 ⟨rfl, hA4⟩
            have HA4 := Lib.hid hA4
            clear hA4 hm c0
            go_wp2_with fail
            refine ⟨⟨2 * i + 1, _, congrArg (Value.int .i64) (by omega), by omega, Lib.hid (HI.out.step HX.out HY1.out (.inl rfl) h1 HLO2.out (fun c hc hcn => ?_)), Lib.hid ⟨HA4.out.1, ((HA.out.2.trans HA2.out.2).trans HA3.out.2).trans HA4.out.2⟩⟩, by simp [intOf]; omega⟩
            rcases hc with rfl | rfl
            · rw [gd_of HY1.out]; exact lo_self _
            · rw [gd_of HY2.out]; exact HLO.out
          | false =>
            rw [hlo2] at HL2
            have HLO2 := Lib.hid hlo2
            clear hlo2
            go_wp2_with fail
            refine (HL2.out _ _ (by omega) (by omega)).mono ?_
            rintro e w3 ⟨rfl, hA3⟩
            have HA3 := Lib.hid hA3
            clear hA3 hm c0
            go_wp2_with fail
            go_ret
            refine ⟨_, m, rfl, HI.out.stop (fun c hc hcn => ?_), HA3.out.1, (HA.out.2.trans HA2.out.2).trans HA3.out.2⟩
            rw [gd_of HX.out]
            rcases hc with rfl | rfl
            · rw [gd_of HY1.out]; exact HLO2.out
            · rw [gd_of HY2.out]; exact lo_trans HLO.out HLO2.out
      · have g3 : decide (2 * (i : Int) + 1 + 1 < (n : Int)) = false := decide_eq_false (by omega)
        have k4 : ¬ (2 * (i : Int) + 1 + 1 < (n : Int)) := by omega
        have HL2 := Lib.hid (less_al HA.out.1 (by omega) (2 * i + 1) i y1 x hy1 hx)
        have HX := Lib.hid hx
        have HY1 := Lib.hid hy1
        clear hx hy1
        cases hlo2 : lo y1 x with
        | true =>
          rw [hlo2] at HL2
          have HLO2 := Lib.hid hlo2
          clear hlo2
          go_wp2_with fail
          refine (HL2.out _ _ (by omega) (by omega)).mono ?_
          rintro e w3 ⟨rfl, hA3⟩
          have HA3 := Lib.hid hA3
          clear hA3 hm c0
          have c0 := HA3.out.1.facts.1
          have hm := swap_240 c0
          go_wp2_with fail
          refine (swap_al HA3.out.1 (by omega) i (2 * i + 1) x y1 HX.out HY1.out (by omega) _ _ (by omega) (by omega)).mono ?_
          rintro e w4 ⟨rfl, hA4⟩
          have HA4 := Lib.hid hA4
          clear hA4 hm c0
          go_wp2_with fail
          refine ⟨⟨2 * i + 1, _, congrArg (Value.int .i64) (by omega), by omega, Lib.hid (HI.out.step HX.out HY1.out (.inl rfl) h1 HLO2.out (fun c hc hcn => ?_)), Lib.hid ⟨HA4.out.1, (HA.out.2.trans HA3.out.2).trans HA4.out.2⟩⟩, by simp [intOf]; omega⟩
          rcases hc with rfl | rfl
          · rw [gd_of HY1.out]; exact lo_self _
          · omega
        | false =>
          rw [hlo2] at HL2
          have HLO2 := Lib.hid hlo2
          clear hlo2
          go_wp2_with fail
          refine (HL2.out _ _ (by omega) (by omega)).mono ?_
          rintro e w3 ⟨rfl, hA3⟩
          have HA3 := Lib.hid hA3
          clear hA3 hm c0
          go_wp2_with fail
          go_ret
          refine ⟨_, m, rfl, HI.out.stop (fun c hc hcn => ?_), HA3.out.1, HA.out.2.trans HA3.out.2⟩
          rw [gd_of HX.out]
          rcases hc with rfl | rfl
          · rw [gd_of HY1.out]; exact HLO2.out
          · omega
    · have g1 : decide (2 * (i : Int) + 1 ≥ (n : Int)) = true := decide_eq_true (by omega)
      have k1 : 2 * (i : Int) + 1 ≥ (n : Int) := by omega
      go_wp2_with fail
      go_ret
      exact ⟨_, m, rfl, HI.out.stop (fun c hc hcn => by omega), HA.out⟩
end Go.Proofs.YtfgdkeomjplnnaaDoor

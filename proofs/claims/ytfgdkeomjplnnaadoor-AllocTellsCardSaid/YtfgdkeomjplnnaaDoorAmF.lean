/- AllocShort: a span gets a slot only where six others that end no later are in use: the walk. Condition: the table is as it is laid. -/
import Derived.Test.YtfgdkeomjplnnaaDoorAmD
import Derived.Test.YtfgdkeomjplnnaaDoorAmE
namespace Go.Proofs.YtfgdkeomjplnnaaDoor
set_option linter.unusedVariables false
open Go.RowKit
attribute [local irreducible] Blk
def tlS (sp : List Sp) (i : Nat) : Int := ((sp[i]?).map Sp.till).getD 0
theorem max_en {sp : List Sp} {i : Nat} (h : i < sp.length) : max (tlS sp i) (frS sp i + 1) = enI sp i := by
  obtain ⟨h1, h2⟩ := enI_get (List.getElem?_eq_getElem h)
  rw [h1, h2]
  unfold tlS enS
  rw [List.getElem?_eq_getElem h]
  rfl
theorem RepS.at {w : World} {b o : Nat} {sp : List Sp} (h : RepS w (some ⟨b, o, none⟩) sp) {i : Nat} (hi : i < sp.length) : w.cell? ⟨b, o + i * 3 + 1, none⟩ = some (.int .i64 (frS sp i)) ∧ w.cell? ⟨b, o + i * 3 + 2, none⟩ = some (.int .i64 (tlS sp i)) := by
  obtain ⟨b', o', he, hl, hall⟩ := h (fun e => by rw [e] at hi; simp at hi)
  obtain ⟨rfl, rfl⟩ : b = b' ∧ o = o' := by simpa using he
  have hg := List.getElem?_eq_getElem hi
  have h1 := hall i _ hg 1 _ rfl
  have h2 := hall i _ hg 2 _ rfl
  unfold frS tlS
  rw [hg]
  exact ⟨h1, h2⟩
theorem RepS.some {w : World} {A : Option Addr} {sp : List Sp} (h : RepS w A sp) {i : Nat} (hi : i < sp.length) : ∃ b o, A = some ⟨b, o, none⟩ := by
  obtain ⟨b', o', he, _⟩ := h (fun e => by rw [e] at hi; simp at hi)
  exact ⟨b', o', he⟩
def Bounded (sp : List Sp) : Prop := ∀ i, i < sp.length → -1000000000 ≤ frS sp i ∧ frS sp i ≤ 1000000000
def GoodAt (sp : List Sp) (i q : Nat) : Prop := frS sp i ≤ frS sp q ∧ frS sp q < enI sp i ∧ 6 ≤ cntU sp i (frS sp q) (enI sp i) sp.length
theorem not_good {sp : List Sp} {i k : Nat} (h : ∀ q, q < k → ¬ GoodAt sp i q) (hk : ¬ GoodAt sp i k) : ∀ q, q < k + 1 → ¬ GoodAt sp i q := fun q hq => by
  by_cases e : q = k
  · rw [e]; exact hk
  · exact h q (by omega)
section
set_option maxRecDepth 100000 in
set_option maxHeartbeats 6400000 in
theorem allocShort_any (w : World) (A : Option Addr) (l : List P2) (c : Nat) (hr : RepP2 w A l) (hok : ∀ x ∈ l, OkP2 x) (hll : l.length ≤ 9223372036854775807) (hT : TabAt 1 Lib.deBruijn64tab w) (hW : 1 < w.heap.size) :
    Calls Tryd.prog 3 #[.slice A l.length c] w fun e w' => e = .returned (.bool true) ∧ Below w.heap.size w w' := by
  have hspl : (spansL l).length ≤ 100 := by unfold spansL; rw [spsTo_len]; omega
  have hbd : ∀ s ∈ spansL l, 0 ≤ s.fr ∧ s.fr ≤ 255 := fun s hs => by
    obtain ⟨i, hi⟩ := List.getElem?_of_mem hs
    have hil := (List.getElem?_eq_some_iff.1 hi).1
    unfold spansL at hi hil
    rw [spsTo_len] at hil
    rw [spsTo_get hil] at hi
    have : spanAt l i = s := by simpa using hi
    subst this
    have hg := List.getElem?_eq_getElem (show i < l.length by omega)
    have := hok _ (List.mem_of_getElem? hg)
    unfold spanAt
    rw [p2At_of hg]
    exact ⟨this.1, this.2.1⟩
  have HR := Lib.hid hr
  have HOK := Lib.hid hok
  have HT := Lib.hid hT
  have HWK := Lib.hid (works_any w hT hW)
  have HBD := Lib.hid hbd
  clear hr hok hT hbd
  go_enter Tryd.func3, Tryd.ntmps3
  go_wp2_with fail
  refine HWK.out.mono ?_
  rintro e w1 ⟨rfl, hb1⟩
  have HSPL := Lib.hid (spans_law w1 A l c (HR.out.far hb1) HOK.out hll)
  have HB1 := Lib.hid hb1
  clear hb1
  go_wp2_with fail
  refine HSPL.out.mono ?_
  rintro e w2 ⟨A2, c2, rfl, hrep, hb2⟩
  generalize spansL l = sp at *
  have HB2 := Lib.hid (HB1.out.trans (hb2.mono HB1.out.size))
  have HAL := Lib.hid (Alloc_any w2 A2 sp c2 hrep (by omega) (fun s hs => by have := HBD.out s hs; omega) (tab_below HT.out hW HB2.out) (by have := HB2.out.size; omega))
  have HREP := Lib.hid hrep
  clear hb2 hrep
  go_wp2_with fail
  refine HAL.out.mono ?_
  rintro e w3 ⟨order, Bh, ho, hBh, rfl, hblk, hlen, hokh, hb3⟩
  have HO := Lib.hid ho
  have HBLK := Lib.hid hblk
  have HB3 := Lib.hid (HB2.out.trans (hb3.mono HB2.out.size))
  have HREP3 := Lib.hid (HREP.out.far hb3)
  have HLEN := Lib.hid hlen
  clear ho hBh hblk hlen hokh hb3
  go_wp2_with fail
  go_loopw [7] (fun iv wr => ∃ (i : Nat), iv = .int .i64 (i : Int) ∧ i ≤ sp.length ∧ Hid (∃ m, wr = w3.drewN m)) (fun iv _ => sp.length - (intOf iv).toNat)
  case atStart => exact ⟨0, rfl, Nat.zero_le _, Lib.hid ⟨0, rfl⟩⟩
  case round =>
    obtain ⟨i, rfl, hi, HM⟩ := hrel
    by_cases hlt : i < sp.length
    · have i0 : (0 : Int) ≤ (i : Int) := by omega
      have i1 : (i : Int) < (sp.length : Int) := by omega
      obtain ⟨m, rfl⟩ := HM.out
      obtain ⟨b, o, rfl⟩ := HREP3.out.some hlt
      obtain ⟨x, hx⟩ : ∃ x, (allocF sp order).hs[i]? = some x := ⟨_, List.getElem?_eq_getElem (by rw [HLEN.out]; exact hlt)⟩
      obtain ⟨q1, q2⟩ := hmCells_get _ _ _ hx
      have ch := (HBLK.out.cell (i * 2)).trans (show _ = some (Value.bool x.isSlot) by simpa using q1)
      have HX := Lib.hid hx
      obtain ⟨xs, xn⟩ := x
      simp only at ch
      clear q1 q2 hx
      cases xs with
      | false =>
        go_wp2_with fail
        exact ⟨⟨i + 1, rfl, by omega, Lib.hid ⟨m, rfl⟩⟩, by simp [intOf]; omega⟩
      | true =>
        have HSH := Lib.hid (short_law HO.out HX.out)
        obtain ⟨ci1, ci2⟩ := HREP3.out.at hlt
        have hbi : 0 ≤ frS sp i ∧ frS sp i ≤ 255 := by
          have := HBD.out _ (List.getElem_mem hlt)
          rwa [← (enI_get (List.getElem?_eq_getElem hlt)).2] at this
        obtain ⟨b1, b2⟩ := hbi
        have hmx := fun ats ty => max_lit ats ty (tlS sp i) (frS sp i + 1)
        rw [max_en hlt] at hmx
        go_wp2_with fail
        go_quiet (fail)
        go_wp2_with fail
        go_loopw [8, 10] (fun fv kv wr => ∃ (k : Nat) (f : Bool), kv = .int .i64 (k : Int) ∧ fv = .bool f ∧ k ≤ sp.length ∧ Hid (f = false → ∀ q, q < k → ¬ GoodAt sp i q) ∧ Hid (∃ m, wr = w3.drewN m)) (fun _ kv _ => sp.length - (intOf kv).toNat)
        case atStart => exact ⟨0, false, rfl, rfl, Nat.zero_le _, Lib.hid (fun _ q hq => by omega), Lib.hid ⟨_, World.drewN_drewN ..⟩⟩
        case round =>
          obtain ⟨k, f, rfl, rfl, hk, HF, HM⟩ := hrel
          obtain ⟨m, rfl⟩ := HM.out
          cases f with
          | true =>
            by_cases hkl : k < sp.length
            · have k1 : (k : Int) < (sp.length : Int) := by omega
              have g1 : decide ((k : Int) < (sp.length : Int)) = true := decide_eq_true k1
              go_wp2_with fail
              exact ⟨⟨i + 1, rfl, by omega, Lib.hid ⟨m, rfl⟩⟩, by simp [intOf]; omega⟩
            · have k1 : ¬ (k : Int) < (sp.length : Int) := by omega
              have g1 : decide ((k : Int) < (sp.length : Int)) = false := decide_eq_false k1
              go_wp2_with fail
              exact ⟨⟨i + 1, rfl, by omega, Lib.hid ⟨m, rfl⟩⟩, by simp [intOf]; omega⟩
          | false =>
            by_cases hkl : k < sp.length
            · have k0 : (0 : Int) ≤ (k : Int) := by omega
              have k1 : (k : Int) < (sp.length : Int) := by omega
              have g1 : decide ((k : Int) < (sp.length : Int)) = true := decide_eq_true k1
              obtain ⟨ck1, ck2⟩ := HREP3.out.at hkl
              by_cases e1 : frS sp k < frS sp i
              · have g2 : decide (frS sp k < frS sp i) = true := decide_eq_true e1
                have HF2 := Lib.hid (show (false : Bool) = false → ∀ q, q < k + 1 → ¬ GoodAt sp i q from fun _ => not_good (HF.out rfl) (fun hg => by unfold GoodAt at hg; omega))
                clear e1
                go_wp2_with fail
                exact ⟨⟨k + 1, false, rfl, rfl, by omega, HF2, Lib.hid ⟨m, rfl⟩⟩, by simp [intOf]; omega⟩
              by_cases e2 : frS sp k ≥ enI sp i
              · have g2 : decide (frS sp k < frS sp i) = false := decide_eq_false e1
                have g3 : decide (frS sp k ≥ enI sp i) = true := decide_eq_true e2
                have HF2 := Lib.hid (show (false : Bool) = false → ∀ q, q < k + 1 → ¬ GoodAt sp i q from fun _ => not_good (HF.out rfl) (fun hg => by unfold GoodAt at hg; omega))
                clear e1 e2
                go_wp2_with fail
                exact ⟨⟨k + 1, false, rfl, rfl, by omega, HF2, Lib.hid ⟨m, rfl⟩⟩, by simp [intOf]; omega⟩
              have g2 : decide (frS sp k < frS sp i) = false := decide_eq_false e1
              have g3 : decide (frS sp k ≥ enI sp i) = false := decide_eq_false e2
              have HE := Lib.hid (show frS sp i ≤ frS sp k ∧ frS sp k < enI sp i from ⟨by omega, by omega⟩)
              have HNG := Lib.hid (HF.out rfl)
              clear e1 e2 HF
              go_wp2_with fail
              go_loopw [12, 13] (fun nv mv wr => ∃ (q : Nat), mv = .int .i64 (q : Int) ∧ q ≤ sp.length ∧ nv = .int .i64 ((cntU sp i (frS sp k) (enI sp i) q : Nat) : Int) ∧ Hid (∃ m, wr = w3.drewN m)) (fun _ mv _ => sp.length - (intOf mv).toNat)
              case atStart => exact ⟨0, rfl, Nat.zero_le _, rfl, Lib.hid ⟨m, rfl⟩⟩
              case round =>
                obtain ⟨q, rfl, hq, rfl, HM2⟩ := hrel
                obtain ⟨m2, rfl⟩ := HM2.out
                by_cases hql : q < sp.length
                · have q0 : (0 : Int) ≤ (q : Int) := by omega
                  have q1 : (q : Int) < (sp.length : Int) := by omega
                  obtain ⟨cq1, cq2⟩ := HREP3.out.at hql
                  have hbq : 0 ≤ frS sp q ∧ frS sp q ≤ 255 := by
                    have := HBD.out _ (List.getElem_mem hql)
                    rwa [← (enI_get (List.getElem?_eq_getElem hql)).2] at this
                  obtain ⟨bq1, bq2⟩ := hbq
                  have hmq := fun ats ty => max_lit ats ty (tlS sp q) (frS sp q + 1)
                  rw [max_en hql] at hmq
                  have HCL := Lib.hid (cntU_le sp i (frS sp k) (enI sp i) q)
                  have hcl : ((cntU sp i (frS sp k) (enI sp i) q : Nat) : Int) ≤ 1000 := by have := HCL.out; omega
                  have hcl0 : (0 : Int) ≤ ((cntU sp i (frS sp k) (enI sp i) q : Nat) : Int) := by omega
                  by_cases u1 : q = i
                  · have v1 : ((q : Int) != (i : Int)) = false := by rw [u1]; simp
                    have HC := Lib.hid (show cntU sp i (frS sp k) (enI sp i) (q + 1) = cntU sp i (frS sp k) (enI sp i) q + 0 from by
                      rw [cntU_succ]
                      unfold inUse
                      rw [decide_eq_false (by omega)]
                      simp)
                    clear u1
                    go_wp2_with fail
                    go_quiet (fail)
                    go_wp2_with fail
                    exact ⟨⟨q + 1, rfl, by omega, by rw [HC.out]; rfl, Lib.hid ⟨_, rfl⟩⟩, by simp [intOf]; omega⟩
                  have v1 : ((q : Int) != (i : Int)) = true := by
                    simp only [bne_iff_ne, ne_eq]
                    omega
                  by_cases u2 : frS sp q ≤ frS sp k
                  · have v2 : decide (frS sp q ≤ frS sp k) = true := decide_eq_true u2
                    by_cases u3 : frS sp k < enI sp q
                    · have v3 : decide (frS sp k < enI sp q) = true := decide_eq_true u3
                      by_cases u4 : enI sp q ≤ enI sp i
                      · have v4 : decide (enI sp q ≤ enI sp i) = true := decide_eq_true u4
                        have HC := Lib.hid (show cntU sp i (frS sp k) (enI sp i) (q + 1) = cntU sp i (frS sp k) (enI sp i) q + 1 from by
                          rw [cntU_succ]
                          unfold inUse
                          rw [decide_eq_true (by omega)]
                          simp)
                        clear u1 u2 u3 u4
                        go_wp2_with fail
                        go_quiet (fail)
                        go_wp2_with fail
                        exact ⟨⟨q + 1, rfl, by omega, by rw [HC.out]; simp, Lib.hid ⟨_, rfl⟩⟩, by simp [intOf]; omega⟩
                      · have v4 : decide (enI sp q ≤ enI sp i) = false := decide_eq_false u4
                        have HC := Lib.hid (show cntU sp i (frS sp k) (enI sp i) (q + 1) = cntU sp i (frS sp k) (enI sp i) q + 0 from by
                          rw [cntU_succ]
                          unfold inUse
                          rw [decide_eq_false (by omega)]
                          simp)
                        clear u1 u2 u3 u4
                        go_wp2_with fail
                        go_quiet (fail)
                        go_wp2_with fail
                        exact ⟨⟨q + 1, rfl, by omega, by rw [HC.out]; rfl, Lib.hid ⟨_, rfl⟩⟩, by simp [intOf]; omega⟩
                    · have v3 : decide (frS sp k < enI sp q) = false := decide_eq_false u3
                      have HC := Lib.hid (show cntU sp i (frS sp k) (enI sp i) (q + 1) = cntU sp i (frS sp k) (enI sp i) q + 0 from by
                        rw [cntU_succ]
                        unfold inUse
                        rw [decide_eq_false (by omega)]
                        simp)
                      clear u1 u2 u3
                      go_wp2_with fail
                      go_quiet (fail)
                      go_wp2_with fail
                      exact ⟨⟨q + 1, rfl, by omega, by rw [HC.out]; rfl, Lib.hid ⟨_, rfl⟩⟩, by simp [intOf]; omega⟩
                  · have v2 : decide (frS sp q ≤ frS sp k) = false := decide_eq_false u2
                    have HC := Lib.hid (show cntU sp i (frS sp k) (enI sp i) (q + 1) = cntU sp i (frS sp k) (enI sp i) q + 0 from by
                      rw [cntU_succ]
                      unfold inUse
                      rw [decide_eq_false (by omega)]
                      simp)
                    clear u1 u2
                    go_wp2_with fail
                    go_quiet (fail)
                    go_wp2_with fail
                    exact ⟨⟨q + 1, rfl, by omega, by rw [HC.out]; rfl, Lib.hid ⟨_, rfl⟩⟩, by simp [intOf]; omega⟩
                · have hqe : q = sp.length := by omega
                  have hcn : cntU sp i (frS sp k) (enI sp i) q = cntU sp i (frS sp k) (enI sp i) sp.length := by rw [hqe]
                  rw [hcn]
                  by_cases u6 : 6 ≤ cntU sp i (frS sp k) (enI sp i) sp.length
                  · have v6 : decide (((cntU sp i (frS sp k) (enI sp i) sp.length : Nat) : Int) ≥ 6) = true := decide_eq_true (by omega)
                    clear u6 hcn
                    go_wp2_with fail
                    exact ⟨⟨k + 1, true, rfl, rfl, by omega, Lib.hid (fun e => by cases e), Lib.hid ⟨m2, rfl⟩⟩, by simp [intOf]; omega⟩
                  · have v6 : decide (((cntU sp i (frS sp k) (enI sp i) sp.length : Nat) : Int) ≥ 6) = false := decide_eq_false (by omega)
                    have HF2 := Lib.hid (show (false : Bool) = false → ∀ q, q < k + 1 → ¬ GoodAt sp i q from fun _ => not_good HNG.out (fun hg => by unfold GoodAt at hg; omega))
                    clear u6 hcn
                    go_wp2_with fail
                    exact ⟨⟨k + 1, false, rfl, rfl, by omega, HF2, Lib.hid ⟨m2, rfl⟩⟩, by simp [intOf]; omega⟩
            · have k1 : ¬ (k : Int) < (sp.length : Int) := by omega
              exfalso
              obtain ⟨q, hq, hq2⟩ := HSH.out
              exact HF.out rfl q (by omega) hq2
    · have hke : i = sp.length := by omega
      subst hke
      obtain ⟨m, rfl⟩ := HM.out
      go_wp2_with fail
      go_ret
      exact ⟨rfl, below_drewN HB3.out m⟩
end
end Go.Proofs.YtfgdkeomjplnnaaDoor

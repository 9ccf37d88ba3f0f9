/- slices.insertionSortCmpFunc over the order of spans. Conditions: sizes. -/
import Derived.Test.YtfgdkeomjplnnaaDoorAlN
namespace Go.Proofs.YtfgdkeomjplnnaaDoor
set_option linter.unusedVariables false
open Go.RowKit
attribute [local irreducible] Blk
/-- By where spans begin, then by their places. -/
def RB (sp : List Sp) (x y : Nat) : Prop := frS sp x < frS sp y ∨ (frS sp x = frS sp y ∧ x < y)
theorem RB.trans {sp : List Sp} {x y z : Nat} (h1 : RB sp x y) (h2 : RB sp y z) : RB sp x z := by unfold RB at *; omega
theorem RB.of_not {sp : List Sp} {x y : Nat} (h : ¬ frS sp y < frS sp x) (hlt : x < y) : RB sp x y := by unfold RB; omega
theorem RB.of_lt {sp : List Sp} {x y : Nat} (h : frS sp x < frS sp y) : RB sp x y := .inl h
def SortedOn (sp : List Sp) (m : List Nat) (a b : Nat) : Prop := ∀ p q, a ≤ p → p < q → q < b → RB sp (gN m p) (gN m q)
structure InsO (sp : List Sp) (l : List Nat) (a b i : Nat) (m : List Nat) : Prop where
  perm : m.Perm l
  far : ∀ p, (p < a ∨ i ≤ p) → gN m p = gN l p
  srt : SortedOn sp m a i
  src : ∀ p, a ≤ p → p < i → ∃ q, a ≤ q ∧ q < i ∧ gN m p = gN l q
structure InsI (sp : List Sp) (l : List Nat) (a b i j : Nat) (m : List Nat) : Prop where
  perm : m.Perm l
  far : ∀ p, (p < a ∨ i < p) → gN m p = gN l p
  srt : ∀ p q, a ≤ p → p < q → q ≤ i → p ≠ j → q ≠ j → RB sp (gN m p) (gN m q)
  up : ∀ q, j < q → q ≤ i → RB sp (gN m j) (gN m q)
  me : gN m j = gN l i
  src : ∀ p, a ≤ p → p ≤ i → p ≠ j → ∃ q, a ≤ q ∧ q < i ∧ gN m p = gN l q
  ji : j ≤ i
  aj : a ≤ j
theorem InsO.start (sp : List Sp) (l : List Nat) (a b : Nat) : InsO sp l a b (a + 1) l :=
  ⟨List.Perm.refl _, fun _ _ => rfl, fun p q h1 h2 h3 => by omega, fun p h1 h2 => ⟨p, h1, h2, rfl⟩⟩
theorem InsI.start {sp : List Sp} {l m : List Nat} {a b i : Nat} (h : InsO sp l a b i m) (hi : a ≤ i) : InsI sp l a b i i m :=
  ⟨h.perm, fun p hp => h.far p (by omega), fun p q h1 h2 h3 h4 h5 => h.srt p q h1 h2 (by omega), fun q h1 h2 => by omega, h.far i (by omega), fun p h1 h2 h3 => h.src p h1 (by omega), Nat.le_refl _, hi⟩
theorem InsI.step {sp : List Sp} {l m : List Nat} {a b i j : Nat} (h : InsI sp l a b i (j + 1) m) (haj : a ≤ j) (hil : i < m.length) (hlt : frS sp (gN m (j + 1)) < frS sp (gN m j)) : InsI sp l a b i j (exch m (j + 1) j) := by
  have hji := h.ji
  have G := exch_gN (l := m) (p := j + 1) (q := j) (by omega) (by omega)
  refine ⟨(exch_perm (by omega) (by omega)).trans h.perm, fun p hp => ?_, fun p q h1 h2 h3 h4 h5 => ?_, fun q h1 h2 => ?_, ?_, fun p h1 h2 h3 => ?_, by omega, haj⟩
  · rw [G, if_neg (by omega), if_neg (by omega)]
    exact h.far p hp
  · rw [G p, G q, if_neg h4, if_neg h5]
    by_cases hp : p = j + 1
    · subst hp
      rw [if_pos rfl, if_neg (by omega)]
      exact h.srt j q (by omega) (by omega) h3 (by omega) (by omega)
    · rw [if_neg hp]
      by_cases hq : q = j + 1
      · subst hq
        rw [if_pos rfl]
        exact h.srt p j h1 (by omega) (by omega) hp (by omega)
      · rw [if_neg hq]
        exact h.srt p q h1 h2 h3 hp hq
  · rw [G j, if_pos rfl, G q, if_neg (by omega)]
    by_cases hq : q = j + 1
    · rw [if_pos hq]
      exact .of_lt hlt
    · rw [if_neg hq]
      exact h.up q (by omega) h2
  · rw [G j, if_pos rfl]
    exact h.me
  · rw [G p, if_neg h3]
    by_cases hp : p = j + 1
    · rw [if_pos hp]
      exact h.src j haj (by omega) (by omega)
    · rw [if_neg hp]
      exact h.src p h1 h2 hp
theorem InsI.stop {sp : List Sp} {l m : List Nat} {a b i j : Nat} (h : InsI sp l a b i j m) (hasc : ∀ p q, a ≤ p → p < q → q < b → gN l p < gN l q) (hib : i < b) (hs : j ≤ a ∨ ¬ frS sp (gN m j) < frS sp (gN m (j - 1))) : InsO sp l a b (i + 1) m := by
  have hji := h.ji
  have haj := h.aj
  have key : ∀ p, a ≤ p → p < j → RB sp (gN m p) (gN m j) := fun p hp hpj => by
    rcases hs with hs | hs
    · omega
    · obtain ⟨q, hq1, hq2, hq3⟩ := h.src (j - 1) (by omega) (by omega) (by omega)
      have h1 : RB sp (gN m (j - 1)) (gN m j) := .of_not hs (by rw [hq3, h.me]; exact hasc q i hq1 hq2 hib)
      by_cases hpe : p = j - 1
      · rw [hpe]; exact h1
      · exact (h.srt p (j - 1) hp (by omega) (by omega) (by omega) (by omega)).trans h1
  refine ⟨h.perm, fun p hp => h.far p (by omega), fun p q h1 h2 h3 => ?_, fun p h1 h2 => ?_⟩
  · by_cases hp : p = j
    · subst hp
      exact h.up q h2 (by omega)
    · by_cases hq : q = j
      · subst hq
        exact key p h1 h2
      · exact h.srt p q h1 h2 (by omega) hp hq
  · by_cases hp : p = j
    · subst hp
      exact ⟨i, by omega, by omega, h.me⟩
    · obtain ⟨q, hq1, hq2, hq3⟩ := h.src p h1 (by omega) hp
      exact ⟨q, hq1, by omega, hq3⟩
/-- A range is put in order. -/
def SortR (sp : List Sp) (l : List Nat) (a b : Nat) (l' : List Nat) : Prop :=
  l'.Perm l ∧ (∀ p, (p < a ∨ b ≤ p) → gN l' p = gN l p) ∧ SortedOn sp l' a b ∧ ∀ p, a ≤ p → p < b → ∃ q, a ≤ q ∧ q < b ∧ gN l' p = gN l q
theorem cmp_lt (a b : Int) : decide (cmpI a b < 0) = decide (a < b) := by
  unfold cmpI
  by_cases h : a < b
  · simp [h]
  · by_cases h2 : b < a <;> simp [h, h2]
section
variable {W : World} {Bo Bl : Nat} {A : Option Addr} {cA : Nat} {sp : List Sp} {l : List Nat}
def SortP (W : World) (Bo Bl : Nat) (A : Option Addr) (cA : Nat) (sp : List Sp) (l : List Nat) (a b : Nat) (e : Ending) (w' : World) : Prop :=
  e = .returned (.tuple #[]) ∧ ∃ l', SortR sp l a b l' ∧ OrW w' Bo Bl A cA sp l' ∧ Keep W w' (fun k => k = Bo)
set_option maxRecDepth 100000 in
set_option maxHeartbeats 3200000 in
theorem insertion_any (h : OrW W Bo Bl A cA sp l) (hl : l.length ≤ 1000000) (hsp : sp.length ≤ 1000000) (a b : Nat) (hab : a ≤ b) (hb : b ≤ l.length) (hasc : ∀ p q, a ≤ p → p < q → q < b → gN l p < gN l q) (co : Nat) (ai bi : Int) (ea : ai = (a : Int)) (eb : bi = (b : Int)) :
    Calls Tryd.prog 49 #[.slice (some ⟨Bo, 0, none⟩) l.length co, .int .i64 ai, .int .i64 bi, .func (.func 21) #[] #[.pointer (some ⟨Bl, 0, none⟩)]] W (SortP W Bo Bl A cA sp l a b) := by
  subst ea eb
  have H := Lib.hid h
  have HA := Lib.hid hasc
  have HAB := Lib.hid (show a + 1 ≤ b ∨ (b = a ∧ l = l) from by
    rcases Nat.lt_or_ge a b with h | h
    · exact .inl h
    · exact .inr ⟨by omega, rfl⟩)
  clear h hasc
  go_enter Tryd.func49, Tryd.ntmps49
  go_wp2_with fail
  go_loopw [8] (fun iv wr => ∃ (i : Nat) (m : List Nat), iv = .int .i64 (i : Int) ∧ a < i ∧ i ≤ b + 1 ∧ Hid (InsO sp l a b i m ∧ (i ≤ b ∨ (b = a ∧ m = l))) ∧ Hid (OrW wr Bo Bl A cA sp m ∧ Keep W wr (fun k => k = Bo))) (fun iv _ => b - (intOf iv).toNat)
  case atStart => exact ⟨a + 1, l, congrArg (Value.int .i64) (by omega), by omega, by omega, Lib.hid ⟨InsO.start sp l a b, HAB.out.imp id (fun h => ⟨h.1, rfl⟩)⟩, Lib.hid ⟨H.out, Keep.refl _ _⟩⟩
  case round =>
    obtain ⟨i, m, rfl, hai, hib, HO, HW⟩ := hrel
    by_cases hlt : i < b
    · have i1 : (i : Int) < (b : Int) := by omega
      have HI0 := Lib.hid (InsI.start HO.out.1 (by omega))
      go_wp2_with fail
      go_loopw [9] (fun jv wx => ∃ (j : Nat) (mj : List Nat), jv = .int .i64 (j : Int) ∧ Hid (InsI sp l a b i j mj) ∧ Hid (OrW wx Bo Bl A cA sp mj ∧ Keep W wx (fun k => k = Bo))) (fun jv _ => (intOf jv).toNat)
      case atStart => exact ⟨i, m, rfl, HI0.out, HW.out⟩
      case round =>
        obtain ⟨j, mj, rfl, HI, HX⟩ := hrel
        have hji := HI.out.ji
        have haj := HI.out.aj
        have hml := HI.out.perm.length_eq
        have HML := Lib.hid hml
        clear hml
        by_cases hj : a < j
        · obtain ⟨jp, rfl⟩ : ∃ jp, j = jp + 1 := ⟨j - 1, by omega⟩
          have ej : ((jp + 1 : Nat) : Int) = (jp : Int) + 1 := by omega
          rw [ej]
          clear ej
          have hp : jp + 1 < mj.length := by rw [HML.out]; omega
          have hq : jp < mj.length := by omega
          have cp := HX.out.1.cell hp
          have cq := HX.out.1.cell hq
          have g1 : decide ((jp : Int) + 1 > (a : Int)) = true := decide_eq_true (by omega)
          have g2 : (jp : Int) + 1 > (a : Int) := by omega
          have t1 : ((jp : Int) + 1).toNat = jp + 1 := by omega
          have n1 : (0 : Int) ≤ (jp : Int) + 1 := by omega
          have n2 : (jp : Int) + 1 < (l.length : Int) := by omega
          have n3 : (0 : Int) ≤ (jp : Int) := by omega
          have n4 : (jp : Int) < (l.length : Int) := by omega
          have HC := Lib.hid (fun n => Calls.quiet_of (cmp_any (HX.out.1.drewN n) (gN mj (jp + 1)) (gN mj jp) (HX.out.1.lt _ (gN_mem hp)) (HX.out.1.lt _ (gN_mem hq)) hsp))
          have HLT := Lib.hid (cmp_lt (frS sp (gN mj (jp + 1))) (frS sp (gN mj jp)))
          have HE := Lib.hid (fun n => (HX.out.1.drewN n).exch hp hq)
          have HST := Lib.hid (fun hlt => HI.out.step (j := jp) (by omega) (by rw [HML.out]; omega) hlt)
          have HSP := Lib.hid (fun (hn : ¬ frS sp (gN mj (jp + 1)) < frS sp (gN mj jp)) => HI.out.stop HA.out hlt (.inr hn))
          have HCP := Lib.hid (fun n => (HX.out.1.drewN n).cell hp)
          have HCQ := Lib.hid (fun n => (HX.out.1.drewN n).cell hq)
          have HFF := Lib.hid (fun n => (HX.out.1.drewN n).row.frozen)
          by_cases hf : frS sp (gN mj (jp + 1)) < frS sp (gN mj jp)
          · have HIN := Lib.hid (HST.out hf)
            have hd : decide (cmpI (frS sp (gN mj (jp + 1))) (frS sp (gN mj jp)) < 0) = true := by rw [HLT.out]; exact decide_eq_true hf
            have hd2 : cmpI (frS sp (gN mj (jp + 1))) (frS sp (gN mj jp)) < 0 := of_decide_eq_true hd
            clear HST HSP HLT hf
            generalize cmpI (frS sp (gN mj (jp + 1))) (frS sp (gN mj jp)) = cc at *
            generalize gN mj (jp + 1) = gp at *
            generalize gN mj jp = gq at *
            go_wp2_with fail
            go_quiet ((go_at_call 21; exact HC.out _))
            have HK := Lib.hid (((HX.out.2.drewN nq).setCell ⟨Bo, jp + 1, none⟩ (fun _ => rfl) (.int .i64 (gq : Int))).setCell ⟨Bo, jp, none⟩ (fun _ => rfl) (.int .i64 (gp : Int)))
            have HE2 := Lib.hid (HE.out nq)
            have c1 := HCP.out nq
            have c2 := HCQ.out nq
            have ff := HFF.out nq
            have e1 : ¬ jp + 1 = jp := by omega
            have e2 : ¬ jp = jp + 1 := by omega
            clear cp cq hd hd2
            generalize wr.drewN nq = w2 at *
            go_wp2_with fail
            go_big_region
            go_wp2_with fail
            exact ⟨⟨jp, _, rfl, HIN.out, Lib.hid ⟨HE2.out.drewN 1, HK.out.drewN 1⟩⟩, by simp [intOf]⟩
          · have HIN := Lib.hid (HSP.out hf)
            have hd : decide (cmpI (frS sp (gN mj (jp + 1))) (frS sp (gN mj jp)) < 0) = false := by rw [HLT.out]; exact decide_eq_false hf
            clear HST HSP HLT hf
            have HXX := Lib.hid (fun n => HX.out.1.drewN n)
            generalize cmpI (frS sp (gN mj (jp + 1))) (frS sp (gN mj jp)) = cc at *
            generalize gN mj (jp + 1) = gp at *
            generalize gN mj jp = gq at *
            go_wp2_with fail
            go_quiet ((go_at_call 21; exact HC.out _))
            go_wp2_with fail
            exact ⟨⟨i + 1, mj, rfl, by omega, by omega, Lib.hid ⟨HIN.out, .inl (by omega)⟩, Lib.hid ⟨HXX.out nq, HX.out.2.drewN nq⟩⟩, by simp [intOf]; omega⟩
        · have hje : j = a := by omega
          have HIN := Lib.hid (HI.out.stop HA.out hlt (.inl (by omega)))
          have g1 : decide ((j : Int) > (a : Int)) = false := decide_eq_false (by omega)
          have HXX := Lib.hid (fun n => HX.out.1.drewN n)
          go_wp2_with fail
          go_quiet (fail)
          go_wp2_with fail
          exact ⟨⟨i + 1, mj, rfl, by omega, by omega, Lib.hid ⟨HIN.out, .inl (by omega)⟩, Lib.hid ⟨HXX.out nq, HX.out.2.drewN nq⟩⟩, by simp [intOf]; omega⟩
    · have i1 : ¬ (i : Int) < (b : Int) := by omega
      go_wp2_with fail
      go_end0
      rcases HO.out.2 with h | ⟨hba, rfl⟩
      · exact ⟨rfl, m, ⟨HO.out.1.perm, fun p hp => HO.out.1.far p (by omega), fun p q h1 h2 h3 => HO.out.1.srt p q h1 h2 (by omega), fun p h1 h2 => by
          obtain ⟨q, q1, q2, q3⟩ := HO.out.1.src p h1 (by omega)
          exact ⟨q, q1, by omega, q3⟩⟩, HW.out⟩
      · exact ⟨rfl, m, ⟨List.Perm.refl _, fun p hp => rfl, fun p q h1 h2 h3 => by omega, fun p h1 h2 => ⟨p, h1, h2, rfl⟩⟩, HW.out⟩
end
end Go.Proofs.YtfgdkeomjplnnaaDoor

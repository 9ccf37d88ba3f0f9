/- The document's order of spans, walked: it is the one order by where they begin. Conditions: sizes. -/
import Derived.Test.YtfgdkeomjplnnaaDoorAnL
namespace Go.Proofs.YtfgdkeomjplnnaaDoor
set_option linter.unusedVariables false
open Go.RowKit
attribute [local irreducible] Blk
theorem insert_ok {sp : List Sp} {c m : List Nat} {i p : Nat} (hl : c.length = i) (hp : c.Perm (List.range i)) (hw : c.Pairwise (RB sp)) (ml : m.length = i + 1) (hpi : p ≤ i) (ht : m.take p = c.take p) (hd : m.drop (p + 1) = c.drop p)
    (hgt : ∀ j, p ≤ j → j < i → frS sp i < frS sp (gN c j)) (hle : p = 0 ∨ frS sp (gN c (p - 1)) ≤ frS sp i) : (m.set p i).Perm (List.range (i + 1)) ∧ (m.set p i).Pairwise (RB sp) := by
  have hlt : ∀ x ∈ c, x < i := fun x hx => List.mem_range.1 (hp.mem_iff.1 hx)
  have hset : m.set p i = c.take p ++ i :: c.drop p := by
    rw [List.set_eq_take_append_cons_drop, if_pos (by omega), ht, hd]
  rw [hset]
  refine ⟨?_, ?_⟩
  · have h1 : (c.take p ++ i :: c.drop p).Perm (i :: c) := by
      refine (List.perm_middle).trans ?_
      rw [List.take_append_drop]
    refine h1.trans ((hp.cons i).trans ?_)
    rw [List.range_succ]
    exact (List.perm_append_singleton i _).symm
  · have hpw := hw
    rw [← List.take_append_drop p c] at hpw
    obtain ⟨h1, h2, h3⟩ := List.pairwise_append.1 hpw
    have hbef : ∀ x ∈ c.take p, RB sp x i := fun x hx => by
      obtain ⟨j, hj⟩ := List.getElem?_of_mem hx
      rw [List.getElem?_take] at hj
      split at hj
      · rename_i hjp
        have hxi := hlt x (List.mem_of_mem_take hx)
        rcases hle with h0 | h0
        · omega
        · have hjx := gN_of hj
          have h5 : frS sp x ≤ frS sp (gN c (p - 1)) := by
            by_cases e : j = p - 1
            · rw [← e, hjx]; exact Int.le_refl _
            · have := List.pairwise_iff_getElem.1 hw j (p - 1) (by omega) (by omega) (by omega)
              rw [← gN_of (List.getElem?_eq_getElem (show j < c.length by omega)), ← gN_of (List.getElem?_eq_getElem (show p - 1 < c.length by omega)), hjx] at this
              unfold RB at this
              omega
          unfold RB
          omega
      · cases hj
    have haft : ∀ x ∈ c.drop p, RB sp i x := fun x hx => by
      obtain ⟨j, hj⟩ := List.getElem?_of_mem hx
      rw [List.getElem?_drop] at hj
      have := hgt (p + j) (by omega) (by have := (List.getElem?_eq_some_iff.1 hj).1; omega)
      rw [gN_of hj] at this
      exact .inl this
    refine List.pairwise_append.2 ⟨h1, List.pairwise_cons.2 ⟨haft, h2⟩, fun a ha b hb => ?_⟩
    rcases List.mem_cons.1 hb with rfl | hb
    · exact hbef a ha
    · exact h3 a ha b hb
set_option maxRecDepth 100000 in
set_option maxHeartbeats 3200000 in
theorem rorder_any (w : World) (A : Option Addr) (sp : List Sp) (c0 : Nat) (hr : RepS w A sp) (hn : sp.length ≤ 1000) :
    Calls Tryd.prog 26 #[.slice A sp.length c0] w fun e w' => ∃ v order, e = .returned v ∧ Ordered sp order ∧ w'.ownsRow w.heap.size 3 1 v sp.length (nCells order) ∧ Below w.heap.size w w' := by
  have HR := Lib.hid hr
  clear hr
  obtain ⟨i0, hi0, hz0, hz1, hz2⟩ := info_parts infoInt
  have HII := Lib.hid (⟨hi0, hz0, hz1, hz2⟩ : _ ∧ _ ∧ _ ∧ _)
  clear hi0 hz0 hz1 hz2
  go_enter Tryd.func26, Tryd.ntmps26
  go_wp2_with fail
  go_loopw [3, 4] (fun ov iv wr => ∃ (i : Nat) (c : List Nat), iv = .int .i64 (i : Int) ∧ i ≤ sp.length ∧ c.length = i ∧ Hid (c.Perm (List.range i) ∧ c.Pairwise (RB sp)) ∧ Hid (wr.ownsRow w.heap.size 3 1 ov i (nCells c)) ∧ Hid (Below w.heap.size w wr)) (fun _ iv _ => sp.length - (intOf iv).toNat)
  case atStart => exact ⟨0, [], rfl, Nat.zero_le _, rfl, Lib.hid ⟨List.Perm.refl _, List.Pairwise.nil⟩, Lib.hid (World.ownsRow_nil _ _ _ _), Lib.hid (Below.refl _ _)⟩
  case round =>
    obtain ⟨i, c, rfl, hi, hcl, HC, HO, HB⟩ := hrel
    by_cases hil : i < sp.length
    · have i0' : (0 : Int) ≤ (i : Int) := by omega
      have i1 : (i : Int) < (sp.length : Int) := by omega
      have gi : decide ((i : Int) < (sp.length : Int)) = true := decide_eq_true i1
      obtain ⟨bs, os, rfl⟩ := HR.out.some hil
      obtain ⟨bs', os', he, hbs, _⟩ := HR.out (fun e => by rw [e] at hil; simp at hil)
      obtain ⟨rfl, rfl⟩ : bs = bs' ∧ os = os' := by simpa using he
      clear he
      have hbz : w.heap.size ≤ wr.heap.size := HB.out.size
      obtain ⟨A3, c3, rfl⟩ := own_form HO.out
      obtain ⟨gg, cap, w5, hrun, hown5, hgrow, hat, hlt5⟩ := run_append_lies (P := Tryd.prog) (w := wr.alloc (.cells #[.int .i64 (i : Int)] 3)) 44 44 w.heap.size 3 i0 _ 1 8 Tryd.underlying44 HII.out.1 HII.out.2.1 HII.out.2.2.1 HII.out.2.2.2 rfl (by omega) _ i _ (HO.out.alloc _) ⟨wr.heap.size, 0, none⟩ 1 1 [.int .i64 (i : Int)] (by rfl) (World.news_of_block (cs := #[.int .i64 (i : Int)]) (t := 3) (fr := (0, 0)) (Blk.heap (Blk.new wr _ _))) (by simp [Value.oneCell']) (by omega) (by unfold maxLen; omega) (by omega) (by simp; omega) (wr.heap.size + 1) (by simp)
      have HO5 := Lib.hid (show w5.ownsRow w.heap.size 3 1 (.slice (some ⟨gg, 0, none⟩) (i + 1) cap) (i + 1) (nCells (c ++ [i])) from by
        have := hown5
        unfold nCells at this ⊢
        rw [List.map_append]
        exact this)
      have hB5 := Lib.hid ((HB.out.alloc hbz _).grown hgrow (by simp; omega) (fun j hj => (HO.out.lt j hj).1))
      have HRUN := Lib.hid hrun
      have hgB : w.heap.size ≤ gg := (HO5.out.lt gg rfl).1
      clear hown5 hgrow hat hrun
      go_wp2_with (refine wpList_append_eq2 rfl _ _ _ rfl (.slice A3 i c3) (.slice (some ⟨wr.heap.size, 0, none⟩) 1 1) _ (by rfl) (by rfl) HRUN.out ?_)
      go_loopw [5] (fun av wq => ∃ (p : Nat) (m : List Nat), av = .int .i64 (p : Int) ∧ p ≤ i ∧ Hid (m.length = i + 1 ∧ m.take p = c.take p ∧ m.drop (p + 1) = c.drop p ∧ ∀ j, p ≤ j → j < i → frS sp i < frS sp (gN c j)) ∧ Hid (wq.ownsRow w.heap.size 3 1 (.slice (some ⟨gg, 0, none⟩) (i + 1) cap) (i + 1) (nCells m)) ∧ Hid (Below w.heap.size w wq)) (fun av _ => (intOf av).toNat)
      case atStart => exact ⟨i, c ++ [i], rfl, Nat.le_refl _, Lib.hid ⟨by simp [hcl], by rw [List.take_append_of_le_length (by omega)], by rw [List.drop_of_length_le (by simp; omega), List.drop_of_length_le (by omega)], fun j h1 h2 => by omega⟩, HO5, hB5⟩
      case round =>
        obtain ⟨p, m, rfl, hp, HM, HOq, HBq⟩ := hrel
        have hml := HM.out.1
        have hpl : p < m.length := by omega
        have hrwq := HR.out.far HBq.out
        have HRQ := Lib.hid hrwq
        clear hrwq
        obtain ⟨cif, _⟩ := HRQ.out.at hil
        have cell := fun (j : Nat) (hj : j < m.length) => (World.ownsRow.cellAt HOq.out j (by omega)).trans (nCells_get hj)
        have fz := fun j => World.ownsRow.frozenAt HOq.out j
        have cp := cell p hpl
        have zl0 : p ≤ i := hp
        have endg : ∀ (hle : p = 0 ∨ frS sp (gN c (p - 1)) ≤ frS sp i), (m.set p i).length = i + 1 ∧ (m.set p i).Perm (List.range (i + 1)) ∧ (m.set p i).Pairwise (RB sp) := fun hle =>
          ⟨by simp [hml], insert_ok hcl HC.out.1 HC.out.2 hml hp HM.out.2.1 HM.out.2.2.1 HM.out.2.2.2 hle⟩
        have HEND := Lib.hid endg
        have HOS := Lib.hid (show (wr.setCell ⟨gg, p, none⟩ (.int .i64 (i : Int))).ownsRow w.heap.size 3 1 (.slice (some ⟨gg, 0, none⟩) (i + 1) cap) (i + 1) (nCells (m.set p i)) from by
          rw [nCells_set]
          exact ownsRow_set HOq.out rfl (by omega) _)
        have HBS := Lib.hid (fun nq => (below_drewN HBq.out nq).setCell (p := ⟨gg, p, none⟩) hgB (.int .i64 (i : Int)))
        clear endg
        have i2 : (i : Int) + 1 ≤ 1001 := by omega
        cases p with
        | zero =>
          have fz0 := fz 0
          have HE := Lib.hid (HEND.out (.inl rfl))
          have j1 : (0 : Int) < (i : Int) + 1 := by omega
          clear fz cell zl0 HEND
          go_wp2_with fail
          go_quiet (fail)
          go_wp2_with fail
          exact ⟨⟨i + 1, _, rfl, by omega, HE.out.1, Lib.hid HE.out.2, HOS, Lib.hid (HBS.out _)⟩, by simp [intOf]; omega⟩
        | succ q =>
          have hqc : q < c.length := by omega
          have hmq : gN m q = gN c q := by
            have h1 := congrArg (fun l => l[q]?) HM.out.2.1
            simp only [List.getElem?_take] at h1
            rw [if_pos (by omega), if_pos (by omega)] at h1
            unfold gN
            rw [h1]
          have cq := cell q (by omega)
          rw [hmq] at cq
          have hcqi : gN c q < i := List.mem_range.1 (HC.out.1.mem_iff.1 (gN_mem hqc))
          obtain ⟨cf, _⟩ := HRQ.out.at (show gN c q < sp.length by omega)
          have j0 : (0 : Int) ≤ (q : Int) := by omega
          have j1 : (q : Int) + 1 < (i : Int) + 1 := by omega
          have j2 : (q : Int) < (i : Int) + 1 := by omega
          have j3 : (0 : Int) ≤ ((gN c q : Nat) : Int) := by omega
          have j4 : ((gN c q : Nat) : Int) < (sp.length : Int) := by omega
          have j5 : (0 : Int) ≤ (q : Int) + 1 := by omega
          have g1 : decide ((q : Int) + 1 > 0) = true := decide_eq_true (by omega)
          have fz1 := fz (q + 1)
          have e1 : (((q + 1 : Nat)) : Int) = (q : Int) + 1 := by omega
          rw [e1]
          have HSH := Lib.hid (show frS sp i < frS sp (gN c q) → (m.set (q + 1) (gN c q)).length = i + 1 ∧ (m.set (q + 1) (gN c q)).take q = c.take q ∧ (m.set (q + 1) (gN c q)).drop (q + 1) = c.drop q ∧ ∀ j, q ≤ j → j < i → frS sp i < frS sp (gN c j) from fun hf => by
            refine ⟨by simp [hml], ?_, ?_, fun j h1 h2 => ?_⟩
            · have h1 := congrArg (List.take q) HM.out.2.1
              rw [List.take_take, List.take_take, Nat.min_eq_left (by omega)] at h1
              rw [List.take_set_of_le (by omega)]
              exact h1
            · rw [List.drop_set, if_neg (by omega), Nat.sub_self]
              rw [List.drop_eq_getElem_cons (show q + 1 < m.length by omega), List.set_cons_zero, HM.out.2.2.1, List.drop_eq_getElem_cons hqc, gN_of (List.getElem?_eq_getElem hqc)]
            · by_cases e : j = q
              · rw [e]; exact hf
              · exact HM.out.2.2.2 j (by omega) h2)
          have HO6 := Lib.hid (show (wr.setCell ⟨gg, q + 1, none⟩ (.int .i64 ((gN c q : Nat) : Int))).ownsRow w.heap.size 3 1 (.slice (some ⟨gg, 0, none⟩) (i + 1) cap) (i + 1) (nCells (m.set (q + 1) (gN c q))) from by
            rw [nCells_set]
            exact ownsRow_set HOq.out rfl (by omega) _)
          have HB6 := Lib.hid (fun nq => (below_drewN HBq.out nq).setCell (p := ⟨gg, q + 1, none⟩) hgB (.int .i64 ((gN c q : Nat) : Int)))
          have HE := Lib.hid (show ¬ frS sp i < frS sp (gN c q) → _ from fun h => HEND.out (.inr (by rw [Nat.add_sub_cancel]; omega)))
          clear fz cell zl0 HEND hmq
          by_cases hf : frS sp i < frS sp (gN c q)
          · have g2 : decide (frS sp (gN c q) > frS sp i) = true := decide_eq_true hf
            have HS2 := Lib.hid (HSH.out hf)
            have hp' : q ≤ i := by omega
            clear hf HSH HE e1
            generalize gN c q = cqv at *
            go_wp2_with fail
            go_quiet (fail)
            go_wp2_with fail
            exact ⟨⟨q, _, rfl, hp', HS2, HO6, Lib.hid (HB6.out _)⟩, by simp [intOf]⟩
          · have g2 : decide (frS sp (gN c q) > frS sp i) = false := decide_eq_false (by omega)
            have HE2 := Lib.hid (HE.out hf)
            clear hf HSH HE e1
            generalize gN c q = cqv at *
            go_wp2_with fail
            go_quiet (fail)
            go_wp2_with fail
            exact ⟨⟨i + 1, _, rfl, by omega, HE2.out.1, Lib.hid HE2.out.2, HOS, Lib.hid (HBS.out _)⟩, by simp [intOf]; omega⟩
    · have hie : i = sp.length := by omega
      subst hie
      have gi : decide ((sp.length : Int) < (sp.length : Int)) = false := decide_eq_false (by omega)
      have HOE := Lib.hid (ordered_of HC.out.1 HC.out.2)
      go_wp2_with fail
      go_ret
      exact ⟨_, _, rfl, HOE.out, HO.out, HB.out⟩
end Go.Proofs.YtfgdkeomjplnnaaDoor

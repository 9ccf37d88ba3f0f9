/- AllocKnown: the chapter's examples; empty spans; ties; homes that are not apart: the walk. Condition: the table is as it is laid. -/
import Derived.Test.YtfgdkeomjplnnaaDoorAnD
import Derived.Test.YtfgdkeomjplnnaaDoorAnG
namespace Go.Proofs.YtfgdkeomjplnnaaDoor
set_option linter.unusedVariables false
open Go.RowKit
attribute [local irreducible] Blk
def emptyL : List Sp := [⟨0, 5, 5⟩, ⟨0, 5, 2⟩, ⟨0, 6, 9⟩]
def sameL : List Sp := [⟨0, -3, 4⟩, ⟨0, -3, 4⟩, ⟨0, -3, 4⟩, ⟨0, -3, 4⟩, ⟨0, -3, 4⟩, ⟨0, -3, 4⟩, ⟨0, -3, 4⟩, ⟨0, -3, 4⟩]
def twoL : List Sp := [⟨0, 0, 4⟩, ⟨0, 3, 8⟩]
def pairL : List Sp := [⟨0, 9, 12⟩, ⟨0, 1, 10⟩]
def touchL : List Sp := [⟨0, 0, 4⟩, ⟨0, 4, 8⟩]
def hsE : List Hm := [⟨false, 0⟩, ⟨false, 1⟩, ⟨false, 0⟩]
def hsSm : List Hm := [⟨false, 0⟩, ⟨false, 1⟩, ⟨false, 2⟩, ⟨false, 3⟩, ⟨false, 4⟩, ⟨false, 5⟩, ⟨true, 0⟩, ⟨true, 1⟩]
def hsP : List Hm := [⟨false, 1⟩, ⟨false, 0⟩]
def ord8 : List Nat := [0, 1, 2, 3, 4, 5, 6, 7]
def ordP : List Nat := [1, 0]
theorem ordered0 : Ordered [] [] := ordered_of (by decide) (by decide)
theorem orderedE : Ordered emptyL ord3 := ordered_of (by decide) (by decide)
theorem orderedSm : Ordered sameL ord8 := ordered_of (by decide) (by decide)
theorem orderedP : Ordered pairL ordP := ordered_of (by decide) (by decide)
theorem is0 : regsF (allocF [] []).hs = 0 ∧ (allocF [] []).sl = 0 := by decide +kernel
theorem isE : (allocF emptyL ord3).hs = hsE := by decide +kernel
theorem isSm : (allocF sameL ord8).hs = hsSm := by decide +kernel
theorem isP : (allocF pairL ordP).hs = hsP := by decide +kernel
theorem mostSm : mostF sameL = 8 := by decide +kernel
theorem most0 : mostF [] = 0 := rfl
theorem mostE : mostF emptyL = 2 := by decide +kernel
theorem oneE : oneS emptyL := by unfold oneS; decide
theorem oneSm : oneS sameL := by unfold oneS; decide
theorem oneTw : oneS twoL := by unfold oneS; decide
theorem onePr : oneS pairL := by unfold oneS; decide
theorem oneTo : oneS touchL := by unfold oneS; decide
def zero8 : List Value := spCells (List.replicate 8 ⟨0, 0, 0⟩)
theorem run_mk8 (w : World) : (Instr.makeSlice 24 (.int .i64 8) (.int .i64 8)).run Tryd.prog w = .ok (.slice (some ⟨w.heap.size, 0, none⟩) 8 8) (w.alloc (.cells zero8.toArray 32)) := by
  obtain ⟨i0, hi0, hz0, hz1, hz2⟩ := info_parts infoSp
  have h := run_make w 24 32 i0 _ Tryd.underlying24 hi0 hz0 .i64 .i64 8 8 (by omega) (Int.le_refl _) (by rw [hz2]; omega) (by omega)
  rw [h, hz1]
  have e : madeCells (Value.agg #[Value.int IntKind.i64 0, Value.int IntKind.i64 0, Value.int IntKind.i64 0]).cells (Int.toNat 8 * 3) = (spCells (List.replicate 8 ⟨0, 0, 0⟩)).toArray := made_sp 8
  rw [e]
  rfl
def eightTo (k : Nat) : List Sp := List.replicate k ⟨0, -3, 4⟩ ++ List.replicate (8 - k) ⟨0, 0, 0⟩
theorem eightTo_size {k : Nat} (h : k < 8) : (spCells (eightTo k)).toArray.size = 24 := by
  match k, h with
  | 0, _ => rfl
  | 1, _ => rfl
  | 2, _ => rfl
  | 3, _ => rfl
  | 4, _ => rfl
  | 5, _ => rfl
  | 6, _ => rfl
  | 7, _ => rfl
  | k + 8, h => omega
theorem eightTo_get : ∀ k, k < 8 → (eightTo k)[k]? = some ⟨0, 0, 0⟩
  | 0, _ => rfl
  | 1, _ => rfl
  | 2, _ => rfl
  | 3, _ => rfl
  | 4, _ => rfl
  | 5, _ => rfl
  | 6, _ => rfl
  | 7, _ => rfl
  | k + 8, h => by omega
theorem eightTo_succ : ∀ k, k < 8 → ((((spCells (eightTo k)).toArray.setIfInBounds (k * 3) (.int .i64 0)).setIfInBounds (k * 3 + 1) (.int .i64 (-3))).setIfInBounds (k * 3 + 2) (.int .i64 4)) = (spCells (eightTo (k + 1))).toArray
  | 0, _ => rfl
  | 1, _ => rfl
  | 2, _ => rfl
  | 3, _ => rfl
  | 4, _ => rfl
  | 5, _ => rfl
  | 6, _ => rfl
  | 7, _ => rfl
  | k + 8, h => by omega
theorem store_span {w : World} {g i : Nat} {cs : Array Value} (h : Blk w g 32 cs) (hi : i + 3 ≤ cs.size) (v f t : Int) :
    (Instr.storeAt 32 (.pointer (some ⟨g, i, none⟩)) (.agg #[.int .i64 v, .int .i64 f, .int .i64 t])).run Tryd.prog w = .ok () (((w.setCell ⟨g, i, none⟩ (.int .i64 v)).setCell ⟨g, i + 1, none⟩ (.int .i64 f)).setCell ⟨g, i + 2, none⟩ (.int .i64 t)) := by
  have hst := run_storeCells_cells (P := Tryd.prog) g i [.int .i64 v, .int .i64 f, .int .i64 t] 0 w (fun j hj => by
    have hj' : j < 3 := hj
    rw [Nat.add_zero, h.cell]
    rw [Array.getElem?_eq_getElem (by omega)]
    rfl) (fun j _ => h.frozen _) (by simp [Value.oneCell'])
  rw [Nat.add_zero] at hst
  simp [Instr.storeAt, storeVar, Value.cells, Tryd.sizeOf32, go_sem] at hst ⊢
  exact hst
/-- A store, by an equation. -/
theorem wpList_store_eq {P : Program} {w w' : World} {ops : Array Oper} {rest : List Oper} {o : Oper} {a : Act} {Q : Exit → Act → World → Prop} (hgd : o.guard = none) (p x : Operand) (t : TypeId)
    (ho : o.op = .store t p x) (v u : Value) (hp : a.eval p = v) (hx : a.eval x = u)
    (hrun : (Instr.storeAt t v u).run P w = .ok () w') (h : wpList P ops Q rest (a.put o.dst undef) w') : wpList P ops Q (o :: rest) a w := by
  refine wpList_plain hgd fun K hK => ?_
  unfold Oper.wp
  simp [execOp, ho, hp, hx, hrun, Result.andThen]
  exact hK _ _ h
/-- What the walk keeps: the slices. -/
structure KS (W w : World) (gE gS gT : Nat) (ox : Option (Nat × List Sp)) : Prop where
  e : RepS w (some ⟨gE, 0, none⟩) emptyL
  s : RepS w (some ⟨gS, 0, none⟩) sameL
  t : RepS w (some ⟨gT, 0, none⟩) twoL
  x' : ∀ g l, ox = some (g, l) → RepS w (some ⟨g, 0, none⟩) l
  bel : Below W.heap.size W w
section
variable {W w w' : World} {gE gS gT g : Nat} {l : List Sp} {ox : Option (Nat × List Sp)}
theorem KS.x (h : KS W w gE gS gT (some (g, l))) : RepS w (some ⟨g, 0, none⟩) l := h.x' g l rfl
theorem KS.far (h : KS W w gE gS gT ox) (hb : Below w.heap.size w w') : KS W w' gE gS gT ox :=
  ⟨h.e.far hb, h.s.far hb, h.t.far hb, fun g l hg => (h.x' g l hg).far hb, h.bel.trans (hb.mono h.bel.size)⟩
theorem KS.add (h : KS W w gE gS gT ox) (hg : w.heap.size = g) (l : List Sp) : KS W (w.alloc (.cells (spCells l).toArray 32)) gE gS gT (some (g, l)) := by
  subst hg
  have h2 := h.far ((Below.refl w.heap.size w).alloc (Nat.le_refl _) (.cells (spCells l).toArray 32))
  exact ⟨h2.e, h2.s, h2.t, fun g l' e => by
    cases e
    exact RepS.of_blk (Blk.new w _ _), h2.bel⟩
theorem KS.tab (h : KS W w gE gS gT ox) (hT : TabAt 1 Lib.deBruijn64tab W) (hW : 1 < W.heap.size) : TabAt 1 Lib.deBruijn64tab w := tab_below hT hW h.bel
theorem KS.two (h : KS W w gE gS gT ox) (hW : 1 < W.heap.size) : 1 < w.heap.size := Nat.lt_of_lt_of_le hW h.bel.size
end
def apH0 : List Hm := [⟨false, 1⟩, ⟨false, 1⟩]
theorem apE0 : apartB twoL apH0 = false := by decide +kernel
def apH1 : List Hm := [⟨false, 1⟩, ⟨true, 1⟩]
theorem apE1 : apartB twoL apH1 = true := by decide +kernel
def apH2 : List Hm := [⟨true, 1⟩, ⟨true, 1⟩]
theorem apE2 : apartB twoL apH2 = false := by decide +kernel
def apH3 : List Hm := [⟨false, 1⟩]
theorem apE3 : apartB twoL apH3 = false := by decide +kernel
def apH4 : List Hm := [⟨false, 6⟩, ⟨false, 1⟩]
theorem apE4 : apartB twoL apH4 = false := by decide +kernel
def apH5 : List Hm := [⟨false, 0⟩, ⟨true, -1⟩]
theorem apE5 : apartB twoL apH5 = false := by decide +kernel
def apHT : List Hm := [⟨false, 1⟩, ⟨false, 1⟩]
theorem apET : apartB touchL apHT = true := by decide +kernel
theorem apE0' : apartB [] [] = true := by decide +kernel
set_option maxRecDepth 100000 in
set_option maxHeartbeats 12800000 in
theorem allocKnown_any (W : World) (hT : TabAt 1 Lib.deBruijn64tab W) (hW : 1 < W.heap.size) :
    Calls Tryd.prog 7 #[] W fun e w' => e = .returned (.bool true) ∧ Below W.heap.size W w' := by
  have HT := Lib.hid hT
  have HWK := Lib.hid (works_any W hT hW)
  have HMK := Lib.hid run_mk8
  clear hT
  go_enter Tryd.func7, Tryd.ntmps7
  go_wp2_with fail
  refine HWK.out.mono ?_
  rintro e w1 ⟨rfl, hb1⟩
  have HB1 := Lib.hid hb1
  clear hb1
  go_wp2_with fail
  refine (Alloc_any w1 none [] 0 (fun h => absurd rfl h) (by decide) (fun s hs => by cases hs) (tab_below HT.out hW HB1.out) (Nat.lt_of_lt_of_le hW HB1.out.size)).mono ?_
  rintro e w2 ⟨o2, Bh, ho2, hBh, he, hblk, hlen, hok, hbel⟩
  obtain rfl := ho2.unique ordered0
  rw [is0.1, is0.2] at he
  subst he
  have HB2 := Lib.hid (HB1.out.trans (hbel.mono HB1.out.size))
  clear ho2 hBh hblk hlen hok hbel HB1 HWK
  have hmk := HMK.out
  have hA := Lib.hid ((Blk.new w2 32 #[.int .i64 0, .int .i64 5, .int .i64 5, .int .i64 0, .int .i64 5, .int .i64 2, .int .i64 0, .int .i64 6, .int .i64 9]).alloc (.cells zero8.toArray 32))
  have hB := Lib.hid (Blk.newAt (w := w2.alloc (.cells #[.int .i64 0, .int .i64 5, .int .i64 5, .int .i64 0, .int .i64 5, .int .i64 2, .int .i64 0, .int .i64 6, .int .i64 9] 32)) (t := 32) (cs := zero8.toArray) (k := w2.heap.size + 1) (by simp))
  have hBl := Lib.hid (((HB2.out.alloc HB2.out.size (.cells #[.int .i64 0, .int .i64 5, .int .i64 5, .int .i64 0, .int .i64 5, .int .i64 2, .int .i64 0, .int .i64 6, .int .i64 9] 32))).alloc (by have := HB2.out.size; simp; omega) (.cells zero8.toArray 32))
  go_wp2_with fail
  clear hmk
  generalize (w2.alloc (.cells #[.int .i64 0, .int .i64 5, .int .i64 5, .int .i64 0, .int .i64 5, .int .i64 2, .int .i64 0, .int .i64 6, .int .i64 9] 32)).alloc (.cells zero8.toArray 32) = w3 at *
  have hsz : W.heap.size ≤ w2.heap.size := HB2.out.size
  go_loopw [6] (fun iv wr => ∃ k : Nat, iv = .int .i64 (k : Int) ∧ k ≤ 8 ∧ Hid (Blk wr w2.heap.size 32 #[.int .i64 0, .int .i64 5, .int .i64 5, .int .i64 0, .int .i64 5, .int .i64 2, .int .i64 0, .int .i64 6, .int .i64 9] ∧ Blk wr (w2.heap.size + 1) 32 (spCells (eightTo k)).toArray ∧ Below W.heap.size W wr)) (fun iv _ => 8 - (intOf iv).toNat)
  case atStart => exact ⟨0, rfl, by omega, Lib.hid ⟨hA.out, hB.out, hBl.out⟩⟩
  case round =>
    obtain ⟨k, rfl, hk, HX⟩ := hrel
    by_cases hlt : k < 8
    · have k0 : (0 : Int) ≤ (k : Int) := by omega
      have k1 : (k : Int) < 8 := by omega
      have g1 : decide ((k : Int) < 8) = true := decide_eq_true k1
      have HST := Lib.hid (store_span HX.out.2.1 (show k * 3 + 3 ≤ _ by rw [eightTo_size hlt]; omega) 0 (-3) 4)
      have HN := Lib.hid (show Blk (((wr.setCell ⟨w2.heap.size + 1, k * 3, none⟩ (.int .i64 0)).setCell ⟨w2.heap.size + 1, k * 3 + 1, none⟩ (.int .i64 (-3))).setCell ⟨w2.heap.size + 1, k * 3 + 2, none⟩ (.int .i64 4)) w2.heap.size 32 #[.int .i64 0, .int .i64 5, .int .i64 5, .int .i64 0, .int .i64 5, .int .i64 2, .int .i64 0, .int .i64 6, .int .i64 9] ∧ Blk (((wr.setCell ⟨w2.heap.size + 1, k * 3, none⟩ (.int .i64 0)).setCell ⟨w2.heap.size + 1, k * 3 + 1, none⟩ (.int .i64 (-3))).setCell ⟨w2.heap.size + 1, k * 3 + 2, none⟩ (.int .i64 4)) (w2.heap.size + 1) 32 (spCells (eightTo (k + 1))).toArray ∧ Below W.heap.size W (((wr.setCell ⟨w2.heap.size + 1, k * 3, none⟩ (.int .i64 0)).setCell ⟨w2.heap.size + 1, k * 3 + 1, none⟩ (.int .i64 (-3))).setCell ⟨w2.heap.size + 1, k * 3 + 2, none⟩ (.int .i64 4)) from
        ⟨((HX.out.1.far (by show _ ≠ _; simp) _).far (by show _ ≠ _; simp) _).far (by show _ ≠ _; simp) _, by rw [← eightTo_succ k hlt]; exact ((HX.out.2.1.set _ _).set _ _).set _ _, ((HX.out.2.2.setCell (by show W.heap.size ≤ w2.heap.size + 1; omega) _).setCell (by show W.heap.size ≤ w2.heap.size + 1; omega) _).setCell (by show W.heap.size ≤ w2.heap.size + 1; omega) _⟩)
      generalize (((wr.setCell ⟨w2.heap.size + 1, k * 3, none⟩ (.int .i64 0)).setCell ⟨w2.heap.size + 1, k * 3 + 1, none⟩ (.int .i64 (-3))).setCell ⟨w2.heap.size + 1, k * 3 + 2, none⟩ (.int .i64 4)) = w4 at *
      go_wp2_with (refine wpList_store_eq rfl _ _ _ rfl _ _ rfl rfl HST.out ?_)
      exact ⟨⟨k + 1, rfl, by omega, HN⟩, by simp [intOf]; omega⟩
    · have hke : k = 8 := by omega
      subst hke
      have hbw : W.heap.size ≤ wr.heap.size := HX.out.2.2.size
      generalize hgT : wr.heap.size = gT at *
      have HS := Lib.hid (show KS W (wr.alloc (.cells (spCells twoL).toArray 32)) w2.heap.size (w2.heap.size + 1) gT none from
        ⟨RepS.of_blk (l := emptyL) (HX.out.1.alloc _), RepS.of_blk (l := sameL) (HX.out.2.1.alloc _), (by subst hgT; exact RepS.of_blk (l := twoL) (Blk.new wr _ _)), (fun g l h => by cases h), HX.out.2.2.alloc (by omega) _⟩)
      generalize w2.heap.size + 1 = gS at *
      generalize w2.heap.size = gE at *
      clear HX hA hB hBl hsz
      go_wp2_with fail
      have HS0 := HS
      refine (reg_any _ 0).mono ?_
      rintro e wq ⟨rfl, hb⟩
      replace HS := Lib.hid (HS.out.far hb)
      clear hb
      go_wp2_with fail
      refine (reg_any _ 1).mono ?_
      rintro e wq ⟨rfl, hb⟩
      replace HS := Lib.hid (HS.out.far hb)
      clear hb
      go_wp2_with fail
      refine (reg_any _ 0).mono ?_
      rintro e wq ⟨rfl, hb⟩
      replace HS := Lib.hid (HS.out.far hb)
      clear hb
      go_wp2_with fail
      have HQ := Lib.hid (HS.out.far ((Below.refl _ _).alloc (Nat.le_refl _) (.cells #[.bool false, .int .i64 0, .bool false, .int .i64 1, .bool false, .int .i64 0] 30)))
      refine (homes_law _ (some ⟨gE, 0, none⟩) (some ⟨wq.heap.size, 0, none⟩) emptyL hsE 3 3 ord3 orderedE HQ.out.e (RepH.of_blk (Blk.new wq _ _)) (by decide) (by decide) oneE (HQ.out.tab HT.out hW) (HQ.out.two hW)).mono ?_
      rintro e wp ⟨he, hb⟩
      rw [decide_eq_true isE] at he
      subst he
      replace HS := Lib.hid (HQ.out.far hb)
      clear hb HQ
      go_wp2_with fail
      refine (reg_any _ 0).mono ?_
      rintro e wq ⟨rfl, hb⟩
      replace HS := Lib.hid (HS.out.far hb)
      clear hb
      go_wp2_with fail
      refine (reg_any _ 1).mono ?_
      rintro e wq ⟨rfl, hb⟩
      replace HS := Lib.hid (HS.out.far hb)
      clear hb
      go_wp2_with fail
      refine (reg_any _ 2).mono ?_
      rintro e wq ⟨rfl, hb⟩
      replace HS := Lib.hid (HS.out.far hb)
      clear hb
      go_wp2_with fail
      refine (reg_any _ 3).mono ?_
      rintro e wq ⟨rfl, hb⟩
      replace HS := Lib.hid (HS.out.far hb)
      clear hb
      go_wp2_with fail
      refine (reg_any _ 4).mono ?_
      rintro e wq ⟨rfl, hb⟩
      replace HS := Lib.hid (HS.out.far hb)
      clear hb
      go_wp2_with fail
      refine (reg_any _ 5).mono ?_
      rintro e wq ⟨rfl, hb⟩
      replace HS := Lib.hid (HS.out.far hb)
      clear hb
      go_wp2_with fail
      refine (slotHome_any _ 0).mono ?_
      rintro e wq ⟨rfl, hb⟩
      replace HS := Lib.hid (HS.out.far hb)
      clear hb
      go_wp2_with fail
      refine (slotHome_any _ 1).mono ?_
      rintro e wq ⟨rfl, hb⟩
      replace HS := Lib.hid (HS.out.far hb)
      clear hb
      go_wp2_with fail
      have HQ := Lib.hid (HS.out.far ((Below.refl _ _).alloc (Nat.le_refl _) (.cells #[.bool false, .int .i64 0, .bool false, .int .i64 1, .bool false, .int .i64 2, .bool false, .int .i64 3, .bool false, .int .i64 4, .bool false, .int .i64 5, .bool true, .int .i64 0, .bool true, .int .i64 1] 30)))
      refine (homes_law _ (some ⟨gS, 0, none⟩) (some ⟨wq.heap.size, 0, none⟩) sameL hsSm 8 8 ord8 orderedSm HQ.out.s (RepH.of_blk (Blk.new wq _ _)) (by decide) (by decide) oneSm (HQ.out.tab HT.out hW) (HQ.out.two hW)).mono ?_
      rintro e wp ⟨he, hb⟩
      rw [decide_eq_true isSm] at he
      subst he
      replace HS := Lib.hid (HQ.out.far hb)
      clear hb HQ
      go_wp2_with fail
      refine (Most_any _ (some ⟨gS, 0, none⟩) sameL 8 HS.out.s (by decide) oneSm).mono ?_
      rintro e wp ⟨he, hb⟩
      rw [mostSm] at he
      subst he
      replace HS := Lib.hid (HS.out.far hb)
      clear hb
      go_wp2_with fail
      refine (Most_any _ none [] 0 (fun h => absurd rfl h) (by decide) (fun s hs => by cases hs)).mono ?_
      rintro e wp ⟨he, hb⟩
      rw [most0] at he
      subst he
      replace HS := Lib.hid (HS.out.far hb)
      clear hb
      go_wp2_with fail
      refine (Most_any _ (some ⟨gE, 0, none⟩) emptyL 3 HS.out.e (by decide) oneE).mono ?_
      rintro e wp ⟨he, hb⟩
      rw [mostE] at he
      subst he
      replace HS := Lib.hid (HS.out.far hb)
      clear hb
      go_wp2_with fail
      generalize hg : wp.heap.size = gP at *
      replace HS := Lib.hid (HS.out.add hg pairL)
      replace HS := Lib.hid (show KS W (wp.alloc (.cells #[.int .i64 0, .int .i64 9, .int .i64 12, .int .i64 0, .int .i64 1, .int .i64 10] 32)) gE gS gT (some (gP, pairL)) from HS.out)
      generalize wp.alloc (.cells #[.int .i64 0, .int .i64 9, .int .i64 12, .int .i64 0, .int .i64 1, .int .i64 10] 32) = w9 at *
      refine (reg_any _ 1).mono ?_
      rintro e wq ⟨rfl, hb⟩
      replace HS := Lib.hid (HS.out.far hb)
      clear hb
      go_wp2_with fail
      refine (reg_any _ 0).mono ?_
      rintro e wq ⟨rfl, hb⟩
      replace HS := Lib.hid (HS.out.far hb)
      clear hb
      go_wp2_with fail
      have HQ := Lib.hid (HS.out.far ((Below.refl _ _).alloc (Nat.le_refl _) (.cells #[.bool false, .int .i64 1, .bool false, .int .i64 0] 30)))
      refine (homes_law _ (some ⟨gP, 0, none⟩) (some ⟨wq.heap.size, 0, none⟩) pairL hsP 2 2 ordP orderedP HQ.out.x (RepH.of_blk (Blk.new wq _ _)) (by decide) (by decide) onePr (HQ.out.tab HT.out hW) (HQ.out.two hW)).mono ?_
      rintro e wp ⟨he, hb⟩
      rw [decide_eq_true isP] at he
      subst he
      replace HS := Lib.hid (HQ.out.far hb)
      clear hb HQ
      go_wp2_with fail
      refine (reg_any _ 1).mono ?_
      rintro e wq ⟨rfl, hb⟩
      replace HS := Lib.hid (HS.out.far hb)
      clear hb
      go_wp2_with fail
      refine (reg_any _ 1).mono ?_
      rintro e wq ⟨rfl, hb⟩
      replace HS := Lib.hid (HS.out.far hb)
      clear hb
      go_wp2_with fail
      have HQ := Lib.hid (HS.out.far ((Below.refl _ _).alloc (Nat.le_refl _) (.cells #[.bool false, .int .i64 1, .bool false, .int .i64 1] 30)))
      refine (Apart_any _ (some ⟨gT, 0, none⟩) (some ⟨wq.heap.size, 0, none⟩) twoL apH0 2 2 HQ.out.t (RepH.of_blk (Blk.new wq _ _)) (by decide) (by decide) oneTw (by decide +kernel)).mono ?_
      rintro e wp ⟨he, hb⟩
      rw [apE0] at he
      subst he
      replace HS := Lib.hid (HQ.out.far hb)
      clear hb HQ
      go_wp2_with fail
      refine (reg_any _ 1).mono ?_
      rintro e wq ⟨rfl, hb⟩
      replace HS := Lib.hid (HS.out.far hb)
      clear hb
      go_wp2_with fail
      refine (slotHome_any _ 1).mono ?_
      rintro e wq ⟨rfl, hb⟩
      replace HS := Lib.hid (HS.out.far hb)
      clear hb
      go_wp2_with fail
      have HQ := Lib.hid (HS.out.far ((Below.refl _ _).alloc (Nat.le_refl _) (.cells #[.bool false, .int .i64 1, .bool true, .int .i64 1] 30)))
      refine (Apart_any _ (some ⟨gT, 0, none⟩) (some ⟨wq.heap.size, 0, none⟩) twoL apH1 2 2 HQ.out.t (RepH.of_blk (Blk.new wq _ _)) (by decide) (by decide) oneTw (by decide +kernel)).mono ?_
      rintro e wp ⟨he, hb⟩
      rw [apE1] at he
      subst he
      replace HS := Lib.hid (HQ.out.far hb)
      clear hb HQ
      go_wp2_with fail
      refine (slotHome_any _ 1).mono ?_
      rintro e wq ⟨rfl, hb⟩
      replace HS := Lib.hid (HS.out.far hb)
      clear hb
      go_wp2_with fail
      refine (slotHome_any _ 1).mono ?_
      rintro e wq ⟨rfl, hb⟩
      replace HS := Lib.hid (HS.out.far hb)
      clear hb
      go_wp2_with fail
      have HQ := Lib.hid (HS.out.far ((Below.refl _ _).alloc (Nat.le_refl _) (.cells #[.bool true, .int .i64 1, .bool true, .int .i64 1] 30)))
      refine (Apart_any _ (some ⟨gT, 0, none⟩) (some ⟨wq.heap.size, 0, none⟩) twoL apH2 2 2 HQ.out.t (RepH.of_blk (Blk.new wq _ _)) (by decide) (by decide) oneTw (by decide +kernel)).mono ?_
      rintro e wp ⟨he, hb⟩
      rw [apE2] at he
      subst he
      replace HS := Lib.hid (HQ.out.far hb)
      clear hb HQ
      go_wp2_with fail
      refine (reg_any _ 1).mono ?_
      rintro e wq ⟨rfl, hb⟩
      replace HS := Lib.hid (HS.out.far hb)
      clear hb
      go_wp2_with fail
      have HQ := Lib.hid (HS.out.far ((Below.refl _ _).alloc (Nat.le_refl _) (.cells #[.bool false, .int .i64 1] 30)))
      refine (Apart_any _ (some ⟨gT, 0, none⟩) (some ⟨wq.heap.size, 0, none⟩) twoL apH3 2 1 HQ.out.t (RepH.of_blk (Blk.new wq _ _)) (by decide) (by decide) oneTw (by decide +kernel)).mono ?_
      rintro e wp ⟨he, hb⟩
      rw [apE3] at he
      subst he
      replace HS := Lib.hid (HQ.out.far hb)
      clear hb HQ
      go_wp2_with fail
      refine (reg_any _ 6).mono ?_
      rintro e wq ⟨rfl, hb⟩
      replace HS := Lib.hid (HS.out.far hb)
      clear hb
      go_wp2_with fail
      refine (reg_any _ 1).mono ?_
      rintro e wq ⟨rfl, hb⟩
      replace HS := Lib.hid (HS.out.far hb)
      clear hb
      go_wp2_with fail
      have HQ := Lib.hid (HS.out.far ((Below.refl _ _).alloc (Nat.le_refl _) (.cells #[.bool false, .int .i64 6, .bool false, .int .i64 1] 30)))
      refine (Apart_any _ (some ⟨gT, 0, none⟩) (some ⟨wq.heap.size, 0, none⟩) twoL apH4 2 2 HQ.out.t (RepH.of_blk (Blk.new wq _ _)) (by decide) (by decide) oneTw (by decide +kernel)).mono ?_
      rintro e wp ⟨he, hb⟩
      rw [apE4] at he
      subst he
      replace HS := Lib.hid (HQ.out.far hb)
      clear hb HQ
      go_wp2_with fail
      refine (reg_any _ 0).mono ?_
      rintro e wq ⟨rfl, hb⟩
      replace HS := Lib.hid (HS.out.far hb)
      clear hb
      go_wp2_with fail
      refine (slotHome_any _ (-1)).mono ?_
      rintro e wq ⟨rfl, hb⟩
      replace HS := Lib.hid (HS.out.far hb)
      clear hb
      go_wp2_with fail
      have HQ := Lib.hid (HS.out.far ((Below.refl _ _).alloc (Nat.le_refl _) (.cells #[.bool false, .int .i64 0, .bool true, .int .i64 (-1)] 30)))
      refine (Apart_any _ (some ⟨gT, 0, none⟩) (some ⟨wq.heap.size, 0, none⟩) twoL apH5 2 2 HQ.out.t (RepH.of_blk (Blk.new wq _ _)) (by decide) (by decide) oneTw (by decide +kernel)).mono ?_
      rintro e wp ⟨he, hb⟩
      rw [apE5] at he
      subst he
      replace HS := Lib.hid (HQ.out.far hb)
      clear hb HQ
      go_wp2_with fail
      generalize hg : wp.heap.size = gU at *
      replace HS := Lib.hid (HS.out.add hg touchL)
      replace HS := Lib.hid (show KS W (wp.alloc (.cells #[.int .i64 0, .int .i64 0, .int .i64 4, .int .i64 0, .int .i64 4, .int .i64 8] 32)) gE gS gT (some (gU, touchL)) from HS.out)
      generalize wp.alloc (.cells #[.int .i64 0, .int .i64 0, .int .i64 4, .int .i64 0, .int .i64 4, .int .i64 8] 32) = w9 at *
      refine (reg_any _ 1).mono ?_
      rintro e wq ⟨rfl, hb⟩
      replace HS := Lib.hid (HS.out.far hb)
      clear hb
      go_wp2_with fail
      refine (reg_any _ 1).mono ?_
      rintro e wq ⟨rfl, hb⟩
      replace HS := Lib.hid (HS.out.far hb)
      clear hb
      go_wp2_with fail
      have HQ := Lib.hid (HS.out.far ((Below.refl _ _).alloc (Nat.le_refl _) (.cells #[.bool false, .int .i64 1, .bool false, .int .i64 1] 30)))
      refine (Apart_any _ (some ⟨gU, 0, none⟩) (some ⟨wq.heap.size, 0, none⟩) touchL apHT 2 2 HQ.out.x (RepH.of_blk (Blk.new wq _ _)) (by decide) (by decide) oneTo (by decide +kernel)).mono ?_
      rintro e wp ⟨he, hb⟩
      rw [apET] at he
      subst he
      replace HS := Lib.hid (HQ.out.far hb)
      clear hb HQ
      go_wp2_with fail
      refine (Apart_any _ none none [] [] 0 0 (fun h => absurd rfl h) (fun h => absurd rfl h) (by decide) (by decide) (fun s hs => by cases hs) (fun s hs => by cases hs)).mono ?_
      rintro e wp ⟨he, hb⟩
      rw [apE0'] at he
      subst he
      replace HS := Lib.hid (HS.out.far hb)
      clear hb
      go_wp2_with fail
      go_ret
      exact ⟨rfl, HS.out.bel⟩
end Go.Proofs.YtfgdkeomjplnnaaDoor

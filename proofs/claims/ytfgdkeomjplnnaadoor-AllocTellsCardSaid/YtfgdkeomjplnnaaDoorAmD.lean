/- The chapter's examples are true. Condition: the table is as it is laid. -/
import Derived.Test.YtfgdkeomjplnnaaDoorAmC
namespace Go.Proofs.YtfgdkeomjplnnaaDoor
set_option linter.unusedVariables false
open Go.RowKit
attribute [local irreducible] Blk
def oneS (l : List Sp) : Prop := ∀ s ∈ l, -1000000000 ≤ s.fr ∧ s.fr ≤ 1000000000
theorem one7 : oneS sevenL := by unfold oneS; decide
theorem oneSh : oneS shortL := by unfold oneS; decide
theorem one3 : oneS threeL := by unfold oneS; decide
theorem RepS.of_blk {w : World} {g : Nat} {l : List Sp} (h : Blk w g 32 (spCells l).toArray) : RepS w (some ⟨g, 0, none⟩) l := fun hne =>
  ⟨g, 0, rfl, h.lt, fun k x hx j u hu => by
    rw [Nat.zero_add]
    exact (h.cell (k * 3 + j)).trans (by simpa using spCells_get l k x hx j u hu)⟩
theorem sevenTo_get (t : Int) : ∀ k, k < 7 → (sevenTo t k)[k]? = some ⟨0, 0, 0⟩
  | 0, _ => rfl
  | 1, _ => rfl
  | 2, _ => rfl
  | 3, _ => rfl
  | 4, _ => rfl
  | 5, _ => rfl
  | 6, _ => rfl
  | k + 7, h => by omega
/-- What the examples' walk keeps: the two slices, and the third one where it is made. -/
structure WS (W w : World) (o3 : Option Nat) : Prop where
  s7 : RepS w (some ⟨W.heap.size, 0, none⟩) sevenL
  sS : RepS w (some ⟨W.heap.size + 1, 0, none⟩) shortL
  s3' : ∀ g, o3 = some g → RepS w (some ⟨g, 0, none⟩) threeL
  bel : Below W.heap.size W w
theorem WS.s3 {W w : World} {g : Nat} (h : WS W w (some g)) : RepS w (some ⟨g, 0, none⟩) threeL := h.s3' g rfl
theorem WS.far {W w w' : World} {o3 : Option Nat} (h : WS W w o3) (hb : Below w.heap.size w w') : WS W w' o3 :=
  ⟨h.s7.far hb, h.sS.far hb, fun g hg => (h.s3' g hg).far hb, h.bel.trans (hb.mono h.bel.size)⟩
theorem WS.add {W w : World} {g : Nat} (h : WS W w none) (hg : w.heap.size = g) : WS W (w.alloc (.cells #[.int .i64 0, .int .i64 0, .int .i64 9, .int .i64 0, .int .i64 1, .int .i64 3, .int .i64 0, .int .i64 3, .int .i64 5] 32)) (some g) := by
  subst hg
  have h2 := h.far ((Below.refl w.heap.size w).alloc (Nat.le_refl _) (.cells #[.int .i64 0, .int .i64 0, .int .i64 9, .int .i64 0, .int .i64 1, .int .i64 3, .int .i64 0, .int .i64 3, .int .i64 5] 32))
  exact ⟨h2.s7, h2.sS, fun g e => by
    cases e
    exact RepS.of_blk (l := threeL) (Blk.new w _ _), h2.bel⟩
theorem WS.tab {W w : World} {o3 : Option Nat} (h : WS W w o3) (hT : TabAt 1 Lib.deBruijn64tab W) (hW : 1 < W.heap.size) : TabAt 1 Lib.deBruijn64tab w := tab_below hT hW h.bel
theorem WS.two {W w : World} {o3 : Option Nat} (h : WS W w o3) (hW : 1 < W.heap.size) : 1 < w.heap.size := Nat.lt_of_lt_of_le hW h.bel.size
set_option maxRecDepth 100000 in
set_option maxHeartbeats 6400000 in
theorem works_any (W : World) (hT : TabAt 1 Lib.deBruijn64tab W) (hW : 1 < W.heap.size) :
    Calls Tryd.prog 8 #[] W fun e w' => e = .returned (.bool true) ∧ Below W.heap.size W w' := by
  have HT := Lib.hid hT
  have hmk := run_mk7
  have hA := Lib.hid ((Blk.new W 32 zero7.toArray).alloc (.cells zero7.toArray 32))
  have hB := Lib.hid (Blk.newAt (w := W.alloc (.cells zero7.toArray 32)) (t := 32) (cs := zero7.toArray) (k := W.heap.size + 1) (by simp))
  have hBl := Lib.hid (((Below.refl W.heap.size W).alloc (Nat.le_refl _) (.cells zero7.toArray 32)).alloc (by simp) (.cells zero7.toArray 32))
  clear hT
  go_enter Tryd.func8, Tryd.ntmps8
  go_wp2_with fail
  clear hmk
  generalize (W.alloc (.cells zero7.toArray 32)).alloc (.cells zero7.toArray 32) = W1 at *
  go_loopw [3] (fun iv wr => ∃ k : Nat, iv = .int .i64 (k : Int) ∧ k ≤ 7 ∧ Hid (Blk wr W.heap.size 32 (spCells (sevenTo 9 k)).toArray ∧ Blk wr (W.heap.size + 1) 32 (spCells (sevenTo 4 k)).toArray ∧ Below W.heap.size W wr)) (fun iv _ => 7 - (intOf iv).toNat)
  case atStart => exact ⟨0, rfl, by omega, Lib.hid ⟨hA.out, hB.out, hBl.out⟩⟩
  case round =>
    obtain ⟨k, rfl, hk, HX⟩ := hrel
    by_cases hlt : k < 7
    · have k0 : (0 : Int) ≤ (k : Int) := by omega
      have k1 : (k : Int) < 7 := by omega
      have f1 := HX.out.1.frozen
      have f2 := HX.out.2.1.frozen
      have c1 := (HX.out.1.cell (k * 3 + 2)).trans (show _ = some (Value.int .i64 0) by rw [List.getElem?_toArray]; exact spCells_get _ k _ (sevenTo_get 9 k hlt) 2 _ rfl)
      have c2 := (HX.out.2.1.cell (k * 3 + 2)).trans (show _ = some (Value.int .i64 0) by rw [List.getElem?_toArray]; exact spCells_get _ k _ (sevenTo_get 4 k hlt) 2 _ rfl)
      have HN := Lib.hid (show Blk ((wr.setCell ⟨W.heap.size, k * 3 + 2, none⟩ (.int .i64 9)).setCell ⟨W.heap.size + 1, k * 3 + 2, none⟩ (.int .i64 4)) W.heap.size 32 (spCells (sevenTo 9 (k + 1))).toArray ∧ Blk ((wr.setCell ⟨W.heap.size, k * 3 + 2, none⟩ (.int .i64 9)).setCell ⟨W.heap.size + 1, k * 3 + 2, none⟩ (.int .i64 4)) (W.heap.size + 1) 32 (spCells (sevenTo 4 (k + 1))).toArray ∧ Below W.heap.size W ((wr.setCell ⟨W.heap.size, k * 3 + 2, none⟩ (.int .i64 9)).setCell ⟨W.heap.size + 1, k * 3 + 2, none⟩ (.int .i64 4)) from
        ⟨by rw [← sevenTo_succ 9 k hlt]; exact (HX.out.1.set _ _).far (by show _ ≠ _; simp) _, by rw [← sevenTo_succ 4 k hlt]; exact (HX.out.2.1.far (by show _ ≠ _; simp) _).set _ _, (HX.out.2.2.setCell (by simp) _).setCell (by simp) _⟩)
      go_wp2_with fail
      exact ⟨⟨k + 1, rfl, by omega, HN⟩, by simp [intOf]; omega⟩
    · have hke : k = 7 := by omega
      subst hke
      have f1 := HX.out.1.frozen
      have f2 := HX.out.2.1.frozen
      have c1 := (HX.out.1.cell 8).trans (show _ = some (Value.int .i64 9) from rfl)
      have c2 := (HX.out.2.1.cell 18).trans (show _ = some (Value.int .i64 0) from rfl)
      have c3 := (HX.out.2.1.cell 19).trans (show _ = some (Value.int .i64 0) from rfl)
      have c4 := (HX.out.2.1.cell 20).trans (show _ = some (Value.int .i64 4) from rfl)
      go_wp2_with fail
      have HS := Lib.hid (show WS W ((((wr.setCell ⟨W.heap.size, 8, none⟩ (.int .i64 20)).setCell ⟨W.heap.size + 1, 18, none⟩ (.int .i64 0)).setCell ⟨W.heap.size + 1, 19, none⟩ (.int .i64 1)).setCell ⟨W.heap.size + 1, 20, none⟩ (.int .i64 2)) none from
        ⟨RepS.of_blk (l := sevenL) (((((HX.out.1.set 8 _).far (by show _ ≠ _; simp) _).far (by show _ ≠ _; simp) _).far (by show _ ≠ _; simp) _)), RepS.of_blk (l := shortL) (((((HX.out.2.1.far (by show _ ≠ _; simp) _).set 18 _).set 19 _).set 20 _)), (fun g h => by cases h), (((HX.out.2.2.setCell (by simp) _).setCell (by simp) _).setCell (by simp) _).setCell (by simp) _⟩)
      generalize ((((wr.setCell ⟨W.heap.size, 8, none⟩ (.int .i64 20)).setCell ⟨W.heap.size + 1, 18, none⟩ (.int .i64 0)).setCell ⟨W.heap.size + 1, 19, none⟩ (.int .i64 1)).setCell ⟨W.heap.size + 1, 20, none⟩ (.int .i64 2)) = W2 at *
      clear c1 c2 c3 c4 f1 f2 HX
      refine (Alloc_any W2 (some ⟨W.heap.size, 0, none⟩) sevenL 7 HS.out.s7 (by decide) one7 (HS.out.tab HT.out hW) (HS.out.two hW)).mono ?_
      rintro e W3 ⟨o2, Bh, ho2, hBh, he, hblk, hlen, hok, hbel⟩
      obtain rfl := ho2.unique ordered7
      rw [is7.2.2, is7.2.1] at he
      subst he
      replace HS := Lib.hid (HS.out.far hbel)
      clear ho2 hBh hblk hlen hok hbel
      go_wp2_with fail
      generalize hg : W3.heap.size = g3 at *
      replace HS := Lib.hid (show WS W (W3.alloc (.cells #[.int .i64 0, .int .i64 0, .int .i64 9, .int .i64 0, .int .i64 1, .int .i64 3, .int .i64 0, .int .i64 3, .int .i64 5] 32)) (some g3) from HS.out.add hg)
      generalize W3.alloc (.cells #[.int .i64 0, .int .i64 0, .int .i64 9, .int .i64 0, .int .i64 1, .int .i64 3, .int .i64 0, .int .i64 3, .int .i64 5] 32) = W4 at *
      refine (reg_any _ 0).mono ?_
      rintro e wq ⟨rfl, hb⟩
      replace HS := Lib.hid (HS.out.far hb)
      clear hb
      go_wp2_with fail
      refine (reg_any _ 1).mono ?_
      rintro e wq ⟨rfl, hb⟩
      replace HS := Lib.hid (HS.out.far hb)
      clear hb
      go_wp2_with fail
      refine (reg_any _ 1).mono ?_
      rintro e wq ⟨rfl, hb⟩
      replace HS := Lib.hid (HS.out.far hb)
      clear hb
      go_wp2_with fail
      have HQ := Lib.hid (show WS W (wq.alloc (.cells #[.bool false, .int .i64 0, .bool false, .int .i64 1, .bool false, .int .i64 1] 30)) (some g3) from HS.out.far ((Below.refl _ _).alloc (Nat.le_refl _) _))
      refine (homes_law _ (some ⟨g3, 0, none⟩) (some ⟨wq.heap.size, 0, none⟩) threeL h3 3 3 ord3 ordered3 HQ.out.s3 (RepH.of_blk (Blk.new wq _ _)) (by decide) (by decide) one3 (HQ.out.tab HT.out hW) (HQ.out.two hW)).mono ?_
      rintro e wp ⟨he, hb⟩
      rw [decide_eq_true is3] at he
      subst he
      replace HS := Lib.hid (HQ.out.far hb)
      clear hb HQ
      go_wp2_with fail
      refine (reg_any _ 0).mono ?_
      rintro e wq ⟨rfl, hb⟩
      replace HS := Lib.hid (HS.out.far hb)
      clear hb
      go_wp2_with fail
      refine (reg_any _ 1).mono ?_
      rintro e wq ⟨rfl, hb⟩
      replace HS := Lib.hid (HS.out.far hb)
      clear hb
      go_wp2_with fail
      refine (slotHome_any _ 0).mono ?_
      rintro e wq ⟨rfl, hb⟩
      replace HS := Lib.hid (HS.out.far hb)
      clear hb
      go_wp2_with fail
      refine (reg_any _ 3).mono ?_
      rintro e wq ⟨rfl, hb⟩
      replace HS := Lib.hid (HS.out.far hb)
      clear hb
      go_wp2_with fail
      refine (reg_any _ 4).mono ?_
      rintro e wq ⟨rfl, hb⟩
      replace HS := Lib.hid (HS.out.far hb)
      clear hb
      go_wp2_with fail
      refine (reg_any _ 5).mono ?_
      rintro e wq ⟨rfl, hb⟩
      replace HS := Lib.hid (HS.out.far hb)
      clear hb
      go_wp2_with fail
      refine (reg_any _ 2).mono ?_
      rintro e wq ⟨rfl, hb⟩
      replace HS := Lib.hid (HS.out.far hb)
      clear hb
      go_wp2_with fail
      have HQ := Lib.hid (show WS W (wq.alloc (.cells #[.bool false, .int .i64 0, .bool false, .int .i64 1, .bool true, .int .i64 0, .bool false, .int .i64 3, .bool false, .int .i64 4, .bool false, .int .i64 5, .bool false, .int .i64 2] 30)) (some g3) from HS.out.far ((Below.refl _ _).alloc (Nat.le_refl _) _))
      refine (homes_law _ (some ⟨W.heap.size, 0, none⟩) (some ⟨wq.heap.size, 0, none⟩) sevenL h7 7 7 ord7 ordered7 HQ.out.s7 (RepH.of_blk (Blk.new wq _ _)) (by decide) (by decide) one7 (HQ.out.tab HT.out hW) (HQ.out.two hW)).mono ?_
      rintro e wp ⟨he, hb⟩
      rw [decide_eq_true is7.1] at he
      subst he
      replace HS := Lib.hid (HQ.out.far hb)
      clear hb HQ
      go_wp2_with fail
      refine (reg_any _ 0).mono ?_
      rintro e wq ⟨rfl, hb⟩
      replace HS := Lib.hid (HS.out.far hb)
      clear hb
      go_wp2_with fail
      refine (reg_any _ 1).mono ?_
      rintro e wq ⟨rfl, hb⟩
      replace HS := Lib.hid (HS.out.far hb)
      clear hb
      go_wp2_with fail
      refine (reg_any _ 2).mono ?_
      rintro e wq ⟨rfl, hb⟩
      replace HS := Lib.hid (HS.out.far hb)
      clear hb
      go_wp2_with fail
      refine (reg_any _ 3).mono ?_
      rintro e wq ⟨rfl, hb⟩
      replace HS := Lib.hid (HS.out.far hb)
      clear hb
      go_wp2_with fail
      refine (reg_any _ 4).mono ?_
      rintro e wq ⟨rfl, hb⟩
      replace HS := Lib.hid (HS.out.far hb)
      clear hb
      go_wp2_with fail
      refine (slotHome_any _ 0).mono ?_
      rintro e wq ⟨rfl, hb⟩
      replace HS := Lib.hid (HS.out.far hb)
      clear hb
      go_wp2_with fail
      refine (reg_any _ 5).mono ?_
      rintro e wq ⟨rfl, hb⟩
      replace HS := Lib.hid (HS.out.far hb)
      clear hb
      go_wp2_with fail
      have HQ := Lib.hid (show WS W (wq.alloc (.cells #[.bool false, .int .i64 0, .bool false, .int .i64 1, .bool false, .int .i64 2, .bool false, .int .i64 3, .bool false, .int .i64 4, .bool true, .int .i64 0, .bool false, .int .i64 5] 30)) (some g3) from HS.out.far ((Below.refl _ _).alloc (Nat.le_refl _) _))
      refine (homes_law _ (some ⟨W.heap.size + 1, 0, none⟩) (some ⟨wq.heap.size, 0, none⟩) shortL hS 7 7 ord7 orderedS HQ.out.sS (RepH.of_blk (Blk.new wq _ _)) (by decide) (by decide) oneSh (HQ.out.tab HT.out hW) (HQ.out.two hW)).mono ?_
      rintro e wp ⟨he, hb⟩
      rw [decide_eq_true isS] at he
      subst he
      replace HS := Lib.hid (HQ.out.far hb)
      clear hb HQ
      go_wp2_with fail
      go_ret
      exact ⟨rfl, HS.out.bel⟩
end Go.Proofs.YtfgdkeomjplnnaaDoor

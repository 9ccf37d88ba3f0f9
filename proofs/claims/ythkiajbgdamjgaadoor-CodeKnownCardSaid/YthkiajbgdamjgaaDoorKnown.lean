/- The closed law CodeKnown: the chapter's examples, each kind, what there is none of. Conditions: two tables of the library as they are laid. -/
import Derived.Test.YthkiajbgdamjgaaDoorPacks
namespace Go.Proofs.YthkiajbgdamjgaaDoor
set_option linter.unusedVariables false
open Go.RowKit
attribute [local irreducible] Blk

def hk2 : List HV := [⟨false, 5⟩, ⟨true, 0⟩]
theorem rep_hk2 {w : World} {g : Nat} (h : Blk w g 36 #[.bool false, .int .i64 5, .bool true, .int .i64 0]) : RepH w w.heap.size (some ⟨g, 0, none⟩) hk2 :=
  RepH.of_blk h (fun k x hx => by
    match k, hx with
    | 0, hx => simp [hk2] at hx; subst hx; exact ⟨rfl, rfl⟩
    | 1, hx => simp [hk2] at hx; subst hx; exact ⟨rfl, rfl⟩)
/-- The table of kinds: an instruction's kind, the machine's, the register. -/
def trips : List (Int × Int × Int) := [(0, 0, 0), (18, 1, 0), (15, 20, 0), (12, 15, 0), (17, 22, 0), (19, 23, 0), (1, 2, 5), (5, 6, 5), (9, 10, 5), (6, 7, 5), (10, 11, 5), (11, 14, 5), (16, 21, 5), (14, 17, 5)]
def tripCells (l : List (Int × Int × Int)) : List Value := l.flatMap fun t => [.int .i64 t.1, .int .i64 t.2.1, .int .u8 t.2.2]
theorem trips_sel : ∀ t ∈ trips, selL ⟨t.1, 0, 0, 0, 0, 0, 9, 0, 0⟩ hk2 2 = [⟨IntKind.u8.wrap t.2.1, t.2.2, 0, 0, 9⟩] := by
  intro t ht
  simp only [trips, List.mem_cons, List.mem_nil_iff, or_false] at ht
  rcases ht with rfl | rfl | rfl | rfl | rfl | rfl | rfl | rfl | rfl | rfl | rfl | rfl | rfl | rfl <;> decide +kernel
theorem tripCells_get : ∀ (l : List (Int × Int × Int)) (k : Nat) (t : Int × Int × Int), l[k]? = some t → (tripCells l)[k * 3]? = some (.int .i64 t.1) ∧ (tripCells l)[k * 3 + 1]? = some (.int .i64 t.2.1) ∧ (tripCells l)[k * 3 + 2]? = some (.int .u8 t.2.2)
  | [], k, t, h => by simp at h
  | y :: r, 0, t, h => by
    simp at h
    subst h
    exact ⟨rfl, rfl, rfl⟩
  | y :: r, k + 1, t, h => by
    have ih := tripCells_get r k t (by simpa using h)
    have e : ∀ j, (tripCells (y :: r))[(k + 1) * 3 + j]? = (tripCells r)[k * 3 + j]? := fun j => by
      simp only [tripCells, List.flatMap_cons]
      rw [List.getElem?_append_right (by simp; omega)]
      congr 1
      simp
      omega
    exact ⟨(e 0).trans ih.1, (e 1).trans ih.2.1, (e 2).trans ih.2.2⟩
theorem unpack_b (w : World) (n s : Int) (q r : Int) (h0 : -2147483648 ≤ n) (h1 : n ≤ 2147483647) (s0 : 1 ≤ s) (s1 : s ≤ 1000000) (hq : n / s = q) (hr : n % s = r) :
    Calls Tryd.prog 17 #[.int .i32 n, .int .i64 s] w fun e w' => e = .returned (.tuple #[.int .i64 q, .int .i64 r]) ∧ Below w.heap.size w w' := by
  refine (unpack_any w n s h0 h1 s0 s1).mono fun e w' h => ?_
  obtain ⟨rfl, k, rfl⟩ := h
  rw [hq, hr]
  exact ⟨rfl, below_drewN _ _⟩
theorem text_q : textL ⟨24, 255, 9, 1, -2147483648⟩ = [63, 32, 50, 53, 53, 32, 57, 32, 49, 32, 45, 50, 49, 52, 55, 52, 56, 51, 54, 52, 56] := by
  unfold textL
  simp [opName, names, Lib.itoa, Lib.decDigits]
theorem text_halt : textL ⟨23, 0, 0, 0, 0⟩ = [72, 65, 76, 84, 32, 48, 32, 48, 32, 48, 32, 48] := by
  unfold textL
  simp [opName, names, Lib.itoa, Lib.decDigits]
theorem pack_643 : packI 5 128 3 = 643 := by unfold packI wrap32 wrap64; omega
theorem sel_k0 : selL ⟨13, 0, 0, 1, 0, 0, 9, 0, 0⟩ hk2 2 = [⟨19, 6, 0, 0, 0⟩, ⟨13, 6, 0, 0, 2⟩] := by decide +kernel
theorem sel_k1 : selL ⟨4, 6, 1, 0, 1, 0, 0, 0, 0⟩ hk2 2 = [⟨12, 6, 0, 0, 2⟩, ⟨5, 5, 6, 0, 25⟩] := by decide +kernel
theorem sel_k2 : selL ⟨2, 0, 0, 1, 1, 0, 0, 0, 0⟩ hk2 2 = [⟨12, 6, 0, 0, 2⟩, ⟨13, 6, 0, 0, 2⟩] := by decide +kernel
theorem sel_k3 : selL ⟨1, 0, 0, 7, 0, 0, 4294967296, 0, 0⟩ hk2 2 = [⟨2, 0, 0, 0, 0⟩] := by decide +kernel
theorem sel_k4 : selL ⟨99, 0, 0, 0, 0, 0, 0, 0, 0⟩ hk2 2 = [] := by decide +kernel
theorem sel_k5 : selL ⟨-1, 0, 0, 0, 0, 0, 0, 0, 0⟩ hk2 2 = [] := by decide +kernel

set_option maxRecDepth 100000 in
set_option maxHeartbeats 12800000 in
theorem codeKnown_any (B : Nat) (w : World) (hT : Tabs B w) (hB : B ≤ w.heap.size) :
    Calls Tryd.prog 6 #[] w fun e w' => e = .returned (.bool true) ∧ Below w.heap.size w w' := by
  have hWK := fun W (h : Below w.heap.size w W) => works_any B W (hT.below (h.mono hB)) (Nat.le_trans hB h.size)
  have WK := Lib.hid hWK
  have hTX := fun W (h : Below w.heap.size w W) => text_any B W ⟨24, 255, 9, 1, -2147483648⟩ (hT.below (h.mono hB)) (Nat.le_trans hB h.size) (by decide) (by decide) (by decide) (by decide) (by decide) (by decide) (by decide) (by decide) (by decide) (by decide)
  have hTH := fun W (h : Below w.heap.size w W) => text_any B W ⟨23, 0, 0, 0, 0⟩ (hT.below (h.mono hB)) (Nat.le_trans hB h.size) (by decide) (by decide) (by decide) (by decide) (by decide) (by decide) (by decide) (by decide) (by decide) (by decide)
  rw [text_q] at hTX
  rw [text_halt] at hTH
  have TX := Lib.hid hTX
  have TH := Lib.hid hTH
  clear hWK hTX hTH
  have hal := fun (W : World) o (h : w.heap.size ≤ W.heap.size) => (Nat.le_trans h (Below.alloc (Below.refl W.heap.size W) (Nat.le_refl _) o).size)
  have HAL := Lib.hid hal
  clear hal
  go_enter Tryd.func6, Tryd.ntmps6
  go_wp2_with fail
  refine (WK.out _ (Below.refl _ _)).mono ?_
  rintro e w1 ⟨rfl, hb1⟩
  have hs1 := hb1.size
  go_wp2_with fail
  go_loopw [31] (fun i wr => ∃ k : Nat, k ≤ 14 ∧ i = .int .i64 k ∧ Blk wr (w1.heap.size + 1) 57 (tripCells trips).toArray ∧ Blk wr w1.heap.size 36 #[.bool false, .int .i64 5, .bool true, .int .i64 0] ∧ Below w.heap.size w wr) (fun i _ => 14 - (intOf i).toNat)
  case atStart => exact ⟨0, by omega, rfl, Blk.newAt (by simp), (Blk.new _ _ _).alloc _, (hb1.alloc hs1 _).alloc (HAL.out _ _ hs1) _⟩
  case round =>
    obtain ⟨k, hk, rfl, hX, hH, hbr⟩ := hrel
    have hbs := hbr.size
    have hXl := hX.lt
    by_cases hlt : k < 14
    · obtain ⟨t, ht⟩ : ∃ t, trips[k]? = some t := ⟨trips[k]'(by simp [trips]; omega), List.getElem?_eq_getElem _⟩
      have hsel := trips_sel t (List.mem_of_getElem? ht)
      have hc := tripCells_get trips k t ht
      have x0 := (hX.cell (k * 3)).trans (by simpa using hc.1)
      have x1 := (hX.cell (k * 3 + 1)).trans (by simpa using hc.2.1)
      have x2 := (hX.cell (k * 3 + 2)).trans (by simpa using hc.2.2)
      obtain ⟨o, c, a⟩ := t
      simp only at hsel x0 x1 x2
      have HS := Lib.hid hsel
      clear hsel hc ht
      go_wp2_with fail
      go_region_held3 (fun w' => w'.cell? ⟨wr.heap.size, 0, none⟩ = some (.int .i64 o) ∧ w'.cell? ⟨wr.heap.size, 1, none⟩ = some (.int .i64 c) ∧ w'.cell? ⟨wr.heap.size, 2, none⟩ = some (.int .u8 a))
        (first
          | (go_keep; done)
          | (refine ⟨cell_of_blk hZ3 (by rfl), cell_of_blk hZ3 (by rfl), cell_of_blk hZ3 (by rfl)⟩)
          | (refine ⟨cell_of_blk hZ2 (by rfl), cell_of_blk hZ2 (by rfl), cell_of_blk hZ2 (by rfl)⟩)
          | (refine ⟨cell_of_blk (hZ2.alloc _) (by rfl), cell_of_blk (hZ2.alloc _) (by rfl), cell_of_blk (hZ2.alloc _) (by rfl)⟩))
        (first
          | (go_at_call 9; refine (select_r _ ⟨o, 0, 0, 0, 0, 0, 9, 0, 0⟩ _ hk2 2 2 _ HS.out (rep_hk2 (g := w1.heap.size) (by repeat (first | with_reducible exact hH | apply Blk.drew | apply Blk.alloc))) (by decide)).mono ?_; rintro e w2 ⟨A2, c2, rfl, hr2, hb2⟩; have hZ2 := Blk.to (g := wr.heap.size) (t := 57) (cs := #[.int .i64 o, .int .i64 c, .int .u8 a]) (by repeat (first | with_reducible assumption | exact Blk.new _ _ _ | apply Blk.drew | apply Blk.alloc)) hb2; have hX2 := Blk.to (g := w1.heap.size + 1) (t := 57) (cs := (tripCells trips).toArray) (by repeat (first | with_reducible exact hX | apply Blk.drew | apply Blk.alloc)) hb2; have hH2 := Blk.to (g := w1.heap.size) (t := 36) (cs := #[.bool false, .int .i64 5, .bool true, .int .i64 0]) (by repeat (first | with_reducible exact hH | apply Blk.drew | apply Blk.alloc)) hb2; have hbw2 : Below w.heap.size w w2 := bl_next (by first | exact (hbr.alloc hbs _).drew | exact ((hbr.alloc hbs _).alloc (HAL.out _ _ hbs) _).drew) hb2 (Nat.le_refl _); have hbs2 := hbw2.size)
          | (go_at_call 8; refine (codes_same _ A2 _ [⟨IntKind.u8.wrap c, a, 0, 0, 9⟩] c2 _ (by first | exact hr2 | exact hr2.far ((Below.refl _ _).alloc (Nat.le_refl _) _)) (by first | exact Reads5.of_blk (l := [⟨IntKind.u8.wrap c, a, 0, 0, 9⟩]) (Blk.new _ _ _) | exact Reads5.of_blk (l := [⟨IntKind.u8.wrap c, a, 0, 0, 9⟩]) (Blk.to (Blk.drew (Blk.newAt (by simp))) hb2)) (by simp)).mono ?_; rintro e w3 ⟨rfl, hb3⟩; have hZ3 := Blk.to (g := wr.heap.size) (t := 57) (cs := #[.int .i64 o, .int .i64 c, .int .u8 a]) (by first | exact hZ2 | exact hZ2.alloc _) hb3; have hX3 := Blk.to (g := w1.heap.size + 1) (t := 57) (cs := (tripCells trips).toArray) (by first | exact hX2 | exact hX2.alloc _) hb3; have hH3 := Blk.to (g := w1.heap.size) (t := 36) (cs := #[.bool false, .int .i64 5, .bool true, .int .i64 0]) (by first | exact hH2 | exact hH2.alloc _) hb3; have hbw3 : Below w.heap.size w w3 := bl_next (by first | exact hbw2 | exact hbw2.alloc hbs2 _) hb3 (Nat.le_refl _)))
      all_goals
        go_wp2_with fail
        go_roundw
        case rel => exact ⟨k + 1, by omega, by go_num, hX3, hH3, hbw3⟩
        case measure => simp [intOf]; omega
    · have hk14 : k = 14 := by omega
      subst hk14
      clear hX hXl hlt hk
      go_wp2_with fail
      refine (unpack_b _ 643 128 5 3 (by decide) (by decide) (by decide) (by decide) (by decide) (by decide)).mono ?_
      rintro e w21 ⟨rfl, hl21⟩
      have hH21 := hH.to hl21
      have hb21 := bl_next hbr hl21 (Nat.le_refl _)
      go_wp2_with fail
      refine (unpack_b _ (-1) 4 (-1) 3 (by decide) (by decide) (by decide) (by decide) (by decide) (by decide)).mono ?_
      rintro e w22 ⟨rfl, hl22⟩
      have hH22 := hH21.to hl22
      have hb22 := bl_next hb21 hl22 (Nat.le_refl _)
      go_wp2_with fail
      refine (unpack_low _ 7 0 (by decide)).mono ?_
      rintro e w0 ⟨rfl, rfl⟩
      go_wp2_with fail
      refine (WK.out _ hb22).mono ?_
      rintro e w23 ⟨rfl, hl23⟩
      have hH23 := hH22.to hl23
      have hb23 := bl_next hb22 hl23 (Nat.le_refl _)
      go_wp2_with fail
      refine (select_r _ ⟨13, 0, 0, 1, 0, 0, 9, 0, 0⟩ _ hk2 2 2 _ sel_k0 (rep_hk2 hH23) (by decide)).mono ?_
      rintro e w24 ⟨A24, c24, rfl, hr24, hl24⟩
      have hH24 := hH23.to hl24
      have hb24 := bl_next hb23 hl24 (Nat.le_refl _)
      go_wp2_with fail
      have hq25 := hb24.alloc hb24.size (.cells (codeCells [⟨19, 6, 0, 0, 0⟩, ⟨13, 6, 0, 0, 2⟩]).toArray 49)
      refine (codes_same _ A24 _ [⟨19, 6, 0, 0, 0⟩, ⟨13, 6, 0, 0, 2⟩] c24 _ (hr24.far ((Below.refl _ _).alloc (Nat.le_refl _) _)) (Reads5.of_blk (l := [⟨19, 6, 0, 0, 0⟩, ⟨13, 6, 0, 0, 2⟩]) (Blk.new _ _ _)) (by decide)).mono ?_
      rintro e w25 ⟨rfl, hl25⟩
      have hH25 := (hH24.alloc _).to hl25
      have hb25 := bl_next hq25 hl25 (Nat.le_refl _)
      clear hq25 hr24
      go_wp2_with fail
      refine (select_r _ ⟨4, 6, 1, 0, 1, 0, 0, 0, 0⟩ _ hk2 2 2 _ sel_k1 (rep_hk2 hH25) (by decide)).mono ?_
      rintro e w26 ⟨A26, c26, rfl, hr26, hl26⟩
      have hH26 := hH25.to hl26
      have hb26 := bl_next hb25 hl26 (Nat.le_refl _)
      go_wp2_with fail
      have hq27 := hb26.alloc hb26.size (.cells (codeCells [⟨12, 6, 0, 0, 2⟩, ⟨5, 5, 6, 0, 25⟩]).toArray 49)
      refine (codes_same _ A26 _ [⟨12, 6, 0, 0, 2⟩, ⟨5, 5, 6, 0, 25⟩] c26 _ (hr26.far ((Below.refl _ _).alloc (Nat.le_refl _) _)) (Reads5.of_blk (l := [⟨12, 6, 0, 0, 2⟩, ⟨5, 5, 6, 0, 25⟩]) (Blk.new _ _ _)) (by decide)).mono ?_
      rintro e w27 ⟨rfl, hl27⟩
      have hH27 := (hH26.alloc _).to hl27
      have hb27 := bl_next hq27 hl27 (Nat.le_refl _)
      clear hq27 hr26
      go_wp2_with fail
      refine (select_r _ ⟨2, 0, 0, 1, 1, 0, 0, 0, 0⟩ _ hk2 2 2 _ sel_k2 (rep_hk2 hH27) (by decide)).mono ?_
      rintro e w28 ⟨A28, c28, rfl, hr28, hl28⟩
      have hH28 := hH27.to hl28
      have hb28 := bl_next hb27 hl28 (Nat.le_refl _)
      go_wp2_with fail
      have hq29 := hb28.alloc hb28.size (.cells (codeCells [⟨12, 6, 0, 0, 2⟩, ⟨13, 6, 0, 0, 2⟩]).toArray 49)
      refine (codes_same _ A28 _ [⟨12, 6, 0, 0, 2⟩, ⟨13, 6, 0, 0, 2⟩] c28 _ (hr28.far ((Below.refl _ _).alloc (Nat.le_refl _) _)) (Reads5.of_blk (l := [⟨12, 6, 0, 0, 2⟩, ⟨13, 6, 0, 0, 2⟩]) (Blk.new _ _ _)) (by decide)).mono ?_
      rintro e w29 ⟨rfl, hl29⟩
      have hH29 := (hH28.alloc _).to hl29
      have hb29 := bl_next hq29 hl29 (Nat.le_refl _)
      clear hq29 hr28
      go_wp2_with fail
      refine (select_r _ ⟨1, 0, 0, 7, 0, 0, 4294967296, 0, 0⟩ _ hk2 2 2 _ sel_k3 (rep_hk2 hH29) (by decide)).mono ?_
      rintro e w30 ⟨A30, c30, rfl, hr30, hl30⟩
      have hH30 := hH29.to hl30
      have hb30 := bl_next hb29 hl30 (Nat.le_refl _)
      go_wp2_with fail
      have hq31 := hb30.alloc hb30.size (.cells (codeCells [⟨2, 0, 0, 0, 0⟩]).toArray 49)
      refine (codes_same _ A30 _ [⟨2, 0, 0, 0, 0⟩] c30 _ (hr30.far ((Below.refl _ _).alloc (Nat.le_refl _) _)) (Reads5.of_blk (l := [⟨2, 0, 0, 0, 0⟩]) (Blk.new _ _ _)) (by decide)).mono ?_
      rintro e w31 ⟨rfl, hl31⟩
      have hH31 := (hH30.alloc _).to hl31
      have hb31 := bl_next hq31 hl31 (Nat.le_refl _)
      clear hq31 hr30
      go_wp2_with fail
      refine (select_r _ ⟨99, 0, 0, 0, 0, 0, 0, 0, 0⟩ _ hk2 2 2 _ sel_k4 (rep_hk2 hH31) (by decide)).mono ?_
      rintro e w32 ⟨A32, c32, rfl, hr32, hl32⟩
      have hH32 := hH31.to hl32
      have hb32 := bl_next hb31 hl32 (Nat.le_refl _)
      go_wp2_with fail
      refine (select_r _ ⟨-1, 0, 0, 0, 0, 0, 0, 0, 0⟩ _ hk2 2 2 _ sel_k5 (rep_hk2 hH32) (by decide)).mono ?_
      rintro e w33 ⟨A33, c33, rfl, hr33, hl33⟩
      have hH33 := hH32.to hl33
      have hb33 := bl_next hb32 hl33 (Nat.le_refl _)
      go_wp2_with fail
      refine (pack_i _ 5 128 3).mono ?_
      rintro e w0 ⟨rfl, rfl⟩
      rw [pack_643]
      go_wp2_with fail
      refine (TX.out _ hb33).mono ?_
      rintro e w34 ⟨rfl, hl34⟩
      have hH34 := hH33.to hl34
      have hb34 := bl_next hb33 hl34 (Nat.le_refl _)
      go_wp2_with fail
      refine (TH.out _ hb34).mono ?_
      rintro e w35 ⟨rfl, hl35⟩
      have hb35 := bl_next hb34 hl35 (Nat.le_refl _)
      go_wp2_with fail
      go_ret
      exact ⟨rfl, hb35⟩
end Go.Proofs.YthkiajbgdamjgaaDoor

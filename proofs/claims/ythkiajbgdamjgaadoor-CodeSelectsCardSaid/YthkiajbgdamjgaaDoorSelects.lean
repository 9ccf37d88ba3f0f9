/- The law CodeSelects: of any instruction, the machine's are as the document says, wherever values live. Conditions: two tables of the library as they are laid. -/
import Derived.Test.YthkiajbgdamjgaaDoorPacks
import Derived.Test.YthkiajbgdamjgaaDoorRefE
import Derived.Test.YthkiajbgdamjgaaDoorHomes
namespace Go.Proofs.YthkiajbgdamjgaaDoor
set_option linter.unusedVariables false
open Go.RowKit
attribute [local irreducible] Blk

theorem DrH.far {w w' : World} {A : Option Addr} {l : List (Bool × Int)} (h : DrH w A l) (hb : Below w.heap.size w w') : DrH w' A l := fun hne => by
  obtain ⟨b, o, hA, hlt, hall⟩ := h hne
  exact ⟨b, o, hA, by have := hb.size; omega, fun k x hx => ⟨(hb.cell (p := ⟨b, _, none⟩) hlt).trans (hall k x hx).1, (hb.cell (p := ⟨b, _, none⟩) hlt).trans (hall k x hx).2.1, (hall k x hx).2.2⟩⟩
theorem RepH.far {w w' : World} {A : Option Addr} {hs : List HV} (h : RepH w w.heap.size A hs) (hb : Below w.heap.size w w') : RepH w' w'.heap.size A hs := fun hne => by
  obtain ⟨b, o, hA, hlt, hall⟩ := h hne
  exact ⟨b, o, hA, by have := hb.size; omega, fun k x hx => ⟨(hb.cell (p := ⟨b, _, none⟩) hlt).trans (hall k x hx).1, (hb.cell (p := ⟨b, _, none⟩) hlt).trans (hall k x hx).2⟩⟩
theorem RepH.drew {w : World} {A : Option Addr} {hs : List HV} (h : RepH w w.heap.size A hs) : RepH w.drew w.drew.heap.size A hs := h
theorem RepH.alloc {w : World} {A : Option Addr} {hs : List HV} (h : RepH w w.heap.size A hs) (o : Obj) : RepH (w.alloc o) (w.alloc o).heap.size A hs := h.far ((Below.refl _ _).alloc (Nat.le_refl _) _)
theorem selL_len (i : I9) (hs : List HV) (bs : Int) : (selL i hs bs).length ≤ 4 := by
  have r1 := readL_len hs bs i.a 6
  have r2 := readL_len hs bs i.b 7
  have v : (moveL i hs bs).length ≤ 2 := by
    have r3 := readL_len hs bs i.a (IntKind.u8.wrap (homeOf hs i.d).n)
    unfold moveL
    by_cases h1 : (homeOf hs i.d).isSlot = true
    · rw [if_pos h1]
      simp
      omega
    · rw [if_neg h1]
      by_cases h2 : (homeOf hs i.a).isSlot = true
      · rw [if_pos h2]
        omega
      · rw [if_neg h2]
        by_cases h3 : (homeOf hs i.d).n = (homeOf hs i.a).n
        · rw [if_pos h3]
          simp
        · rw [if_neg h3]
          simp
  by_cases h0 : i.op = 0
  · have e : selL i hs bs = [⟨0, 0, 0, 0, wrap32 i.n⟩] := by simp [selL, h0]
    rw [e]
    simp
  by_cases h1 : i.op = 1
  · have e : selL i hs bs = makeL hs bs i.d ⟨2, 0, 0, 0, wrap32 i.n⟩ := by simp [selL, h1]
    rw [e]
    have m := makeL_len hs bs i.d ⟨2, 0, 0, 0, wrap32 i.n⟩
    omega
  by_cases h2 : i.op = 2
  · have e : selL i hs bs = moveL i hs bs := by simp [selL, h2]
    rw [e]
    omega
  by_cases h3 : i.op = 3
  · have e : selL i hs bs = readL hs bs i.a 6 ++ (readL hs bs i.b 7 ++ makeL hs bs i.d ⟨4, 0, readR hs i.a 6, readR hs i.b 7, wrap32 (wrap64 (wrap64 (i.op2 * 4) + i.ty))⟩) := by simp [selL, h3]
    rw [e]
    have m := makeL_len hs bs i.d ⟨4, 0, readR hs i.a 6, readR hs i.b 7, wrap32 (wrap64 (wrap64 (i.op2 * 4) + i.ty))⟩
    simp only [List.length_append]
    omega
  by_cases h4 : i.op = 4
  · have e : selL i hs bs = readL hs bs i.a 6 ++ makeL hs bs i.d ⟨5, 0, readR hs i.a 6, 0, wrap32 (wrap64 (wrap64 (i.op2 * 4) + i.ty))⟩ := by simp [selL, h4]
    rw [e]
    have m := makeL_len hs bs i.d ⟨5, 0, readR hs i.a 6, 0, wrap32 (wrap64 (wrap64 (i.op2 * 4) + i.ty))⟩
    simp only [List.length_append]
    omega
  by_cases h5 : i.op = 5
  · have e : selL i hs bs = makeL hs bs i.d ⟨6, 0, 0, 0, wrap32 i.n⟩ := by simp [selL, h5]
    rw [e]
    have m := makeL_len hs bs i.d ⟨6, 0, 0, 0, wrap32 i.n⟩
    omega
  by_cases h6 : i.op = 6
  · have e : selL i hs bs = readL hs bs i.a 6 ++ [⟨7, readR hs i.a 6, 0, 0, wrap32 i.n⟩] := by simp [selL, h6]
    rw [e]
    simp only [List.length_append, List.length_cons, List.length_nil]
    omega
  by_cases h7 : i.op = 7
  · have e : selL i hs bs = readL hs bs i.a 6 ++ makeL hs bs i.d ⟨8, 0, readR hs i.a 6, 0, wrap32 (wrap64 (wrap64 (i.n * 128) + i.count))⟩ := by simp [selL, h7]
    rw [e]
    have m := makeL_len hs bs i.d ⟨8, 0, readR hs i.a 6, 0, wrap32 (wrap64 (wrap64 (i.n * 128) + i.count))⟩
    simp only [List.length_append]
    omega
  by_cases h8 : i.op = 8
  · have e : selL i hs bs = readL hs bs i.a 6 ++ (readL hs bs i.b 7 ++ [⟨9, readR hs i.b 7, readR hs i.a 6, 0, wrap32 (wrap64 (wrap64 (i.n * 128) + i.count))⟩]) := by simp [selL, h8]
    rw [e]
    simp only [List.length_append, List.length_cons, List.length_nil]
    omega
  by_cases h9 : i.op = 9
  · have e : selL i hs bs = makeL hs bs i.d ⟨10, 0, 0, 0, wrap32 i.n⟩ := by simp [selL, h9]
    rw [e]
    have m := makeL_len hs bs i.d ⟨10, 0, 0, 0, wrap32 i.n⟩
    omega
  by_cases h10 : i.op = 10
  · have e : selL i hs bs = readL hs bs i.a 6 ++ [⟨11, readR hs i.a 6, 0, 0, wrap32 i.n⟩] := by simp [selL, h10]
    rw [e]
    simp only [List.length_append, List.length_cons, List.length_nil]
    omega
  by_cases h11 : i.op = 11
  · have e : selL i hs bs = readL hs bs i.a 6 ++ [⟨14, readR hs i.a 6, 0, 0, wrap32 i.n⟩] := by simp [selL, h11]
    rw [e]
    simp only [List.length_append, List.length_cons, List.length_nil]
    omega
  by_cases h12 : i.op = 12
  · have e : selL i hs bs = [⟨15, 0, 0, 0, wrap32 i.n⟩] := by simp [selL, h12]
    rw [e]
    simp
  by_cases h13 : i.op = 13
  · have e : selL i hs bs = makeL hs bs i.d ⟨19, 0, 0, 0, 0⟩ := by simp [selL, h13]
    rw [e]
    have m := makeL_len hs bs i.d ⟨19, 0, 0, 0, 0⟩
    omega
  by_cases h14 : i.op = 14
  · have e : selL i hs bs = readL hs bs i.a 6 ++ [⟨17, readR hs i.a 6, 0, 0, wrap32 i.n⟩] := by simp [selL, h14]
    rw [e]
    simp only [List.length_append, List.length_cons, List.length_nil]
    omega
  by_cases h15 : i.op = 15
  · have e : selL i hs bs = [⟨20, 0, 0, 0, wrap32 i.n⟩] := by simp [selL, h15]
    rw [e]
    simp
  by_cases h16 : i.op = 16
  · have e : selL i hs bs = readL hs bs i.a 6 ++ [⟨21, readR hs i.a 6, 0, 0, wrap32 i.n⟩] := by simp [selL, h16]
    rw [e]
    simp only [List.length_append, List.length_cons, List.length_nil]
    omega
  by_cases h17 : i.op = 17
  · have e : selL i hs bs = [⟨22, 0, 0, 0, wrap32 i.n⟩] := by simp [selL, h17]
    rw [e]
    simp
  by_cases h18 : i.op = 18
  · have e : selL i hs bs = [⟨1, 0, 0, 0, wrap32 i.n⟩] := by simp [selL, h18]
    rw [e]
    simp
  by_cases h19 : i.op = 19
  · have e : selL i hs bs = [⟨23, 0, 0, 0, wrap32 i.n⟩] := by simp [selL, h19]
    rw [e]
    simp
  have e : selL i hs bs = [] := by simp [selL, h0, h1, h2, h3, h4, h5, h6, h7, h8, h9, h10, h11, h12, h13, h14, h15, h16, h17, h18, h19]
  rw [e]
  simp
theorem rselect_r (w : World) (i : I9) (A : Option Addr) (hs : List HV) (hc : Nat) (bs : Int) (hh : RepH w w.heap.size A hs) (hm : hs.length < 1000000000000000000) :
    Calls Tryd.prog 10 #[.agg #[.int .i64 i.op, .int .i64 i.op2, .int .i64 i.ty, .int .i64 i.d, .int .i64 i.a, .int .i64 i.b, .int .i64 i.n, .int .i64 i.count, .int .i64 i.step], .slice A hs.length hc, .int .i64 bs] w fun e w' =>
      ∃ A' c, e = .returned (.slice A' (selL i hs bs).length c) ∧ Reads5 w' A' (selL i hs bs) ∧ Below w.heap.size w w' := by
  refine (rselect_any w i A hs hc bs hh hm).mono fun e w' h => ?_
  obtain ⟨ov, rfl, ho, hb⟩ := h
  obtain ⟨A', c, rfl, hr⟩ := reads_of_own ho
  exact ⟨A', c, rfl, hr, hb⟩

set_option maxRecDepth 100000 in
set_option maxHeartbeats 6400000 in
theorem codeSelects_any (B : Nat) (w : World) (i : I9) (A : Option Addr) (l : List (Bool × Int)) (c : Nat) (base : Int) (hT : Tabs B w) (hB : B ≤ w.heap.size) (hd : DrH w A l) (hl : l.length ≤ 9223372036854775807) (b0 : 0 ≤ base) (b1 : base ≤ 255) :
    Calls Tryd.prog 3 #[.agg #[.int .i64 i.op, .int .i64 i.op2, .int .i64 i.ty, .int .i64 i.d, .int .i64 i.a, .int .i64 i.b, .int .i64 i.n, .int .i64 i.count, .int .i64 i.step], .slice A l.length c, .int .u8 base] w fun e w' => e = .returned (.bool true) ∧ Below w.heap.size w w' := by
  have hWK := fun W (h : Below w.heap.size w W) => works_any B W (hT.below (h.mono hB)) (Nat.le_trans hB h.size)
  have WK := Lib.hid hWK
  clear hWK
  go_enter Tryd.func3, Tryd.ntmps3
  go_wp2_with fail
  refine (homes_any _ A l c (hd.far ((Below.refl _ _).alloc (Nat.le_refl _) _)) hl).mono ?_
  rintro e w1 ⟨v, hs, rfl, h20, hown, hb1⟩
  have hX1 : Blk w1 w.heap.size 23 #[.int .i64 i.op, .int .i64 i.op2, .int .i64 i.ty, .int .i64 i.d, .int .i64 i.a, .int .i64 i.b, .int .i64 i.n, .int .i64 i.count, .int .i64 i.step] := (Blk.new w _ _).to hb1
  have hbw1 : Below w.heap.size w w1 := bl_next ((Below.refl _ _).alloc (Nat.le_refl _) _) hb1 (Nat.le_refl _)
  obtain ⟨A1, c1, rfl, hrep1⟩ := RepH.of_own hown
  have HD := Lib.hid hd
  clear hd hown hb1
  go_wp2_with fail
  go_loopw [8] (fun s wr => ∃ op : Int, -1 ≤ op ∧ op ≤ 21 ∧ s = .int .i64 op ∧ Blk wr w.heap.size 23 #[.int .i64 i.op, .int .i64 i.op2, .int .i64 i.ty, .int .i64 i.d, .int .i64 i.a, .int .i64 i.b, .int .i64 i.n, .int .i64 i.count, .int .i64 i.step] ∧ RepH wr wr.heap.size A1 hs ∧ Below w.heap.size w wr) (fun s _ => (21 - intOf s).toNat)
  case atStart => exact ⟨-1, by omega, by omega, rfl, hX1, hrep1, hbw1⟩
  case round =>
    clear hX1 hrep1 hbw1
    obtain ⟨op, o0, o1, rfl, hX, hrep, hbr⟩ := hrel
    have hbs := hbr.size
    have hXl := hX.lt
    have x0 := hX.cell 0
    have x1 := hX.cell 1
    have x2 := hX.cell 2
    have x3 := hX.cell 3
    have x4 := hX.cell 4
    have x5 := hX.cell 5
    have x6 := hX.cell 6
    have x7 := hX.cell 7
    have x8 := hX.cell 8
    simp at x0 x1 x2 x3 x4 x5 x6 x7 x8
    have HR := Lib.hid hrep
    clear hrep
    by_cases hop : op ≤ 20
    · go_wp2_with fail
      go_region_held3 (fun w' => w'.cell? ⟨w.heap.size, 3, none⟩ = some (.int .i64 i.d) ∧ w'.cell? ⟨w.heap.size, 4, none⟩ = some (.int .i64 i.a) ∧ w'.cell? ⟨w.heap.size, 5, none⟩ = some (.int .i64 i.b))
        (first
          | (go_keep; done))
        (fail)
      generalize IntKind.i64.wrap ((IntKind.i64.wrap (i.d.tmod 23 + 23)).tmod 23 - 1) = d'
      generalize IntKind.i64.wrap ((IntKind.i64.wrap (i.a.tmod 23 + 23)).tmod 23 - 1) = a'
      generalize IntKind.i64.wrap ((IntKind.i64.wrap (i.b.tmod 23 + 23)).tmod 23 - 1) = b'
      go_wp2_with fail
      go_region_held3 (fun w' => w'.cell? ⟨w.heap.size, 1, none⟩ = some (.int .i64 i.op2) ∧ w'.cell? ⟨w.heap.size, 2, none⟩ = some (.int .i64 i.ty) ∧ w'.cell? ⟨w.heap.size, 7, none⟩ = some (.int .i64 i.count))
        (first
          | (go_keep; done))
        (fail)
      generalize (IntKind.i64.wrap (i.op2.tmod 50 + 50)).tmod 50 = p1
      generalize (IntKind.i64.wrap (i.ty.tmod 4 + 4)).tmod 4 = p2
      generalize (IntKind.i64.wrap (i.count.tmod 65 + 65)).tmod 65 = p7
      go_wp2_with fail
      have hN0 : Blk ((wr.alloc (.cells #[.int .i64 op, .int .i64 p1, .int .i64 p2, .int .i64 d', .int .i64 a', .int .i64 b', .int .i64 i.n, .int .i64 p7, .int .i64 i.step] 23)).drew.drew) wr.heap.size 23 #[.int .i64 op, .int .i64 p1, .int .i64 p2, .int .i64 d', .int .i64 a', .int .i64 b', .int .i64 i.n, .int .i64 p7, .int .i64 i.step] := ((Blk.new wr _ _).drew).drew
      have hX0 : Blk ((wr.alloc (.cells #[.int .i64 op, .int .i64 p1, .int .i64 p2, .int .i64 d', .int .i64 a', .int .i64 b', .int .i64 i.n, .int .i64 p7, .int .i64 i.step] 23)).drew.drew) w.heap.size 23 #[.int .i64 i.op, .int .i64 i.op2, .int .i64 i.ty, .int .i64 i.d, .int .i64 i.a, .int .i64 i.b, .int .i64 i.n, .int .i64 i.count, .int .i64 i.step] := ((hX.alloc _).drew).drew
      have hR0 : RepH ((wr.alloc (.cells #[.int .i64 op, .int .i64 p1, .int .i64 p2, .int .i64 d', .int .i64 a', .int .i64 b', .int .i64 i.n, .int .i64 p7, .int .i64 i.step] 23)).drew.drew) ((wr.alloc (.cells #[.int .i64 op, .int .i64 p1, .int .i64 p2, .int .i64 d', .int .i64 a', .int .i64 b', .int .i64 i.n, .int .i64 p7, .int .i64 i.step] 23)).drew.drew).heap.size A1 hs := ((HR.out.alloc _).drew).drew
      have hY0 : Below w.heap.size w ((wr.alloc (.cells #[.int .i64 op, .int .i64 p1, .int .i64 p2, .int .i64 d', .int .i64 a', .int .i64 b', .int .i64 i.n, .int .i64 p7, .int .i64 i.step] 23)).drew.drew) := ((hbr.alloc hbs _).drew).drew
      clear hX HR hbr x0 x1 x2 x3 x4 x5 x6 x7 x8
      generalize (wr.alloc (.cells #[.int .i64 op, .int .i64 p1, .int .i64 p2, .int .i64 d', .int .i64 a', .int .i64 b', .int .i64 i.n, .int .i64 p7, .int .i64 i.step] 23)).drew.drew = wy at *
      have yb : IntKind.i64.wrap (base % 14) = base % 14 := IntWalk.i64_in _ (by omega)
      have yt : base.tmod 14 = base % 14 := Int.tmod_eq_emod_of_nonneg b0
      have hsl := selL_len ⟨op, p1, p2, d', a', b', i.n, p7, i.step⟩ hs (base % 14)
      go_region_held3 (fun w' => w'.cell? ⟨wr.heap.size, 0, none⟩ = some (.int .i64 op) ∧ w'.cell? ⟨wr.heap.size, 1, none⟩ = some (.int .i64 p1) ∧ w'.cell? ⟨wr.heap.size, 2, none⟩ = some (.int .i64 p2) ∧ w'.cell? ⟨wr.heap.size, 3, none⟩ = some (.int .i64 d') ∧ w'.cell? ⟨wr.heap.size, 4, none⟩ = some (.int .i64 a') ∧ w'.cell? ⟨wr.heap.size, 5, none⟩ = some (.int .i64 b') ∧ w'.cell? ⟨wr.heap.size, 6, none⟩ = some (.int .i64 i.n) ∧ w'.cell? ⟨wr.heap.size, 7, none⟩ = some (.int .i64 p7) ∧ w'.cell? ⟨wr.heap.size, 8, none⟩ = some (.int .i64 i.step))
        (first
          | (refine ⟨cell_of_blk hN4 (by rfl), cell_of_blk hN4 (by rfl), cell_of_blk hN4 (by rfl), cell_of_blk hN4 (by rfl), cell_of_blk hN4 (by rfl), cell_of_blk hN4 (by rfl), cell_of_blk hN4 (by rfl), cell_of_blk hN4 (by rfl), cell_of_blk hN4 (by rfl)⟩)
          | (refine ⟨cell_of_blk hN3 (by rfl), cell_of_blk hN3 (by rfl), cell_of_blk hN3 (by rfl), cell_of_blk hN3 (by rfl), cell_of_blk hN3 (by rfl), cell_of_blk hN3 (by rfl), cell_of_blk hN3 (by rfl), cell_of_blk hN3 (by rfl), cell_of_blk hN3 (by rfl)⟩)
          | (refine ⟨cell_of_blk hN2 (by rfl), cell_of_blk hN2 (by rfl), cell_of_blk hN2 (by rfl), cell_of_blk hN2 (by rfl), cell_of_blk hN2 (by rfl), cell_of_blk hN2 (by rfl), cell_of_blk hN2 (by rfl), cell_of_blk hN2 (by rfl), cell_of_blk hN2 (by rfl)⟩)
          | (refine ⟨cell_of_blk (Blk.drew hN0) (by rfl), cell_of_blk (Blk.drew hN0) (by rfl), cell_of_blk (Blk.drew hN0) (by rfl), cell_of_blk (Blk.drew hN0) (by rfl), cell_of_blk (Blk.drew hN0) (by rfl), cell_of_blk (Blk.drew hN0) (by rfl), cell_of_blk (Blk.drew hN0) (by rfl), cell_of_blk (Blk.drew hN0) (by rfl), cell_of_blk (Blk.drew hN0) (by rfl)⟩))
        (first
          | (go_at_call 9; refine (select_r _ ⟨op, p1, p2, d', a', b', i.n, p7, i.step⟩ A1 hs c1 (base % 14) _ rfl (RepH.drew hR0) (by omega)).mono ?_; rintro e w2 ⟨A2, c2, rfl, hr2, hb2⟩; have hN2 := Blk.to (Blk.drew hN0) hb2; have hX2 := Blk.to (Blk.drew hX0) hb2; have hR2 := RepH.far (RepH.drew hR0) hb2; have hbw2 : Below w.heap.size w w2 := bl_next (Below.drew hY0) hb2 (Nat.le_refl _))
          | (go_at_call 10; refine (rselect_r _ ⟨op, p1, p2, d', a', b', i.n, p7, i.step⟩ A1 hs c1 (base % 14) hR2 (by omega)).mono ?_; rintro e w3 ⟨A3, c3, rfl, hr3, hb3⟩; have hN3 := hN2.to hb3; have hX3 := hX2.to hb3; have hR3 := hR2.far hb3; have hbw3 := bl_next hbw2 hb3 (Nat.le_refl _))
          | (go_at_call 8; refine (codes_same _ A2 A3 (selL ⟨op, p1, p2, d', a', b', i.n, p7, i.step⟩ hs (base % 14)) c2 c3 (hr2.far hb3) hr3 (by omega)).mono ?_; rintro e w4 ⟨rfl, hb4⟩; have hN4 := hN3.to hb4; have hX4 := hX3.to hb4; have hR4 := hR3.far hb4; have hbw4 := bl_next hbw3 hb4 (Nat.le_refl _)))
      clear yb yt
      go_wp2_with fail
      go_roundw
      case rel => exact ⟨op + 1, by omega, by omega, rfl, hX4, hR4, hbw4⟩
      case measure => simp [intOf]; omega
    · have hop' : op = 21 := by omega
      subst hop'
      go_wp2_with fail
      refine (WK.out _ hbr).mono ?_
      rintro e w2 ⟨rfl, hb2⟩
      go_wp2_with fail
      go_ret
      exact ⟨rfl, bl_next hbr hb2 (Nat.le_refl _)⟩
end Go.Proofs.YthkiajbgdamjgaaDoor

/- The allocator's give, where no register is free. Conditions: sizes; the table is as it is laid. -/
import Derived.Test.YtfgdkeomjplnnaaDoorAlK
namespace Go.Proofs.YtfgdkeomjplnnaaDoor
set_option linter.unusedVariables false
open Go.RowKit
attribute [local irreducible] Blk
theorem less2_any (w : World) (b : Nat) (x y : Hd) (x0 : w.cell? ⟨b, 0, none⟩ = some (.int .i64 (x.i : Int))) (x1 : w.cell? ⟨b, 1, none⟩ = some (.int .i64 x.en)) (y0 : w.cell? ⟨b, 2, none⟩ = some (.int .i64 (y.i : Int))) (y1 : w.cell? ⟨b, 3, none⟩ = some (.int .i64 y.en)) :
    Calls Tryd.prog 40 #[.slice (some ⟨b, 0, none⟩) 2 2, .int .i64 0, .int .i64 1] w fun e w' => e = .returned (.bool (lo x y)) ∧ Below w.heap.size w w' :=
  Less_any w b 2 2 0 1 x y (by decide) (by decide) (by decide) x0 x1 y0 y1
section
variable {B0 : Nat} {W : World} {Ba Bh : Nat} {ev : Value} {es : List Hd} {fr : Nat} {hs : List Hm} {sl bx : Nat} {x : Hd}
set_option maxRecDepth 100000 in
set_option maxHeartbeats 1600000 in
theorem give_slot {l : Hd} {rest : List Hd} (h : AlW B0 W Ba Bh ev (l :: rest) 0 hs sl) (hn : rest.length ≤ 6) (hl : hs.length ≤ 1000000) (hi : x.i < hs.length) (hs0 : sl ≤ 1000000) (hlo : lo x l = true) :
    Calls Tryd.prog 24 #[.pointer (some ⟨Ba, 0, none⟩), .agg #[.int .i64 (x.i : Int), .int .i64 x.en]] W (GiveP B0 W Ba Bh (l :: rest) 0 (hs.set x.i ⟨true, (sl : Int)⟩) (sl + 1)) := by
  obtain ⟨g, cap, rfl, hcap, hg0, hg1, hga, hgh, hcs, hfz⟩ := h.form (by simp)
  obtain ⟨l0, l1⟩ := hcs 0 l rfl
  simp only [Nat.zero_mul, Nat.zero_add] at l0 l1
  have f1 := h.facts.2.1
  have f0 := h.facts.1
  have lBa := h.blk.lt
  have hlen : (l :: rest).length = rest.length + 1 := rfl
  rw [hlen] at f0
  have e0 : (((0 : Nat) : Int) == 0) = true := rfl
  have c1 : (0 : Int) < ((rest.length + 1 : Nat) : Int) := by omega
  have HAl := Lib.hid (h.alloc (.cells #[.int .i64 (x.i : Int), .int .i64 x.en] 58) |>.alloc (.cells #[.int .i64 (l.i : Int), .int .i64 l.en] 58) |>.alloc (.cells #[.int .i64 (x.i : Int), .int .i64 x.en, .int .i64 (l.i : Int), .int .i64 l.en] 58))
  have HBl := Lib.hid ((((Below.refl B0 W).alloc (by have := h.b0; omega) (.cells #[.int .i64 (x.i : Int), .int .i64 x.en] 58)).alloc (by have := h.b0; simp; omega) (.cells #[.int .i64 (l.i : Int), .int .i64 l.en] 58)).alloc (by have := h.b0; simp; omega) (.cells #[.int .i64 (x.i : Int), .int .i64 x.en, .int .i64 (l.i : Int), .int .i64 l.en] 58))
  have hb4 : Blk (((W.alloc (.cells #[.int .i64 (x.i : Int), .int .i64 x.en] 58)).alloc (.cells #[.int .i64 (l.i : Int), .int .i64 l.en] 58)).alloc (.cells #[.int .i64 (x.i : Int), .int .i64 x.en, .int .i64 (l.i : Int), .int .i64 l.en] 58)) (W.heap.size + 1 + 1) 58 #[.int .i64 (x.i : Int), .int .i64 x.en, .int .i64 (l.i : Int), .int .i64 l.en] := Blk.newAt (by simp)
  have hbx : Blk (((W.alloc (.cells #[.int .i64 (x.i : Int), .int .i64 x.en] 58)).alloc (.cells #[.int .i64 (l.i : Int), .int .i64 l.en] 58)).alloc (.cells #[.int .i64 (x.i : Int), .int .i64 x.en, .int .i64 (l.i : Int), .int .i64 l.en] 58)) W.heap.size 58 #[.int .i64 (x.i : Int), .int .i64 x.en] := ((Blk.new W _ _).alloc _).alloc _
  have HL := Lib.hid (less2_any _ (W.heap.size + 1 + 1) x l ((hb4.cell 0).trans rfl) ((hb4.cell 1).trans rfl) ((hb4.cell 2).trans rfl) ((hb4.cell 3).trans rfl))
  rw [hlo] at HL
  have HBX := Lib.hid hbx
  have hz1 : (W.alloc (.cells #[.int .i64 (x.i : Int), .int .i64 x.en] 58)).heap.size = W.heap.size + 1 := by simp
  have HCW := Lib.hid (h.b0)
  clear h hcs hfz hb4 hbx hlo
  go_enter Tryd.func24, Tryd.ntmps24
  go_wp2_with fail
  refine HL.out.mono ?_
  rintro e w2 ⟨rfl, hb2⟩
  have HA2 := Lib.hid (HAl.out.below hb2)
  have HB2 := Lib.hid (HBl.out.trans (hb2.mono (by have := HAl.out.b0; have := HAl.out.blk.lt; omega)))
  have hx2 := HBX.out.below hb2 HBX.out.lt
  have px0 := (hx2.cell 0).trans (show _ = some (Value.int .i64 (x.i : Int)) from rfl)
  have HSL := Lib.hid (slot_any HA2.out x.i hi hl hs0)
  clear hb2 hx2
  go_wp2_with fail
  refine HSL.out.mono ?_
  rintro e w3 ⟨rfl, hA3⟩
  have HE := Lib.hid (show GiveP B0 W Ba Bh (l :: rest) 0 (hs.set x.i ⟨true, (sl : Int)⟩) (sl + 1) (.returned (.tuple #[])) w3 from ⟨_, _, rfl, List.Perm.refl _, hA3.1, HB2.out.trans hA3.2.bel⟩)
  clear hA3
  go_wp2_with fail
  go_end0
  exact HE.out
set_option maxRecDepth 100000 in
set_option maxHeartbeats 3200000 in
theorem give_swap {l : Hd} {rest : List Hd} {N : Nat} (h : AlW B0 W Ba Bh ev (l :: rest) 0 hs sl) (hn : rest.length ≤ 6) (hn0 : 0 < rest.length) (hl : hs.length ≤ 1000000) (hi : x.i < hs.length) (hs0 : sl ≤ 1000000) (hlo : lo x l = false) (hN : N < 6) (hlN : hs[l.i]? = some ⟨false, (N : Int)⟩) (hT : TabAt 1 Lib.deBruijn64tab W) (hB : 1 < B0) :
    Calls Tryd.prog 24 #[.pointer (some ⟨Ba, 0, none⟩), .agg #[.int .i64 (x.i : Int), .int .i64 x.en]] W (GiveP B0 W Ba Bh (rest ++ [x]) (clr (2 ^ N) (Lib.ctz 64 (2 ^ N))) ((hs.set l.i ⟨true, (sl : Int)⟩).set x.i ⟨false, ((Lib.ctz 64 (2 ^ N) : Nat) : Int)⟩) (sl + 1)) := by
  obtain ⟨g, cap, rfl, hcap, hg0, hg1, hga, hgh, hcs, hfz⟩ := h.form (by simp)
  obtain ⟨l0, l1⟩ := hcs 0 l rfl
  simp only [Nat.zero_mul, Nat.zero_add] at l0 l1
  have f1 := h.facts.2.1
  have f0 := h.facts.1
  have lBa := h.blk.lt
  have hlen : (l :: rest).length = rest.length + 1 := rfl
  rw [hlen] at f0
  have e0 : (((0 : Nat) : Int) == 0) = true := rfl
  have c1 : (0 : Int) < ((rest.length + 1 : Nat) : Int) := by omega
  have hne0 : ∀ k, (Value.slice (some ⟨g, 0, none⟩) (rest.length + 1) cap).ownBlock = some k → k < W.heap.size := fun k hk => (h.row.lt k hk).2
  have HAl := Lib.hid (h.alloc (.cells #[.int .i64 (x.i : Int), .int .i64 x.en] 58) |>.alloc (.cells #[.int .i64 (l.i : Int), .int .i64 l.en] 58) |>.alloc (.cells #[.int .i64 (x.i : Int), .int .i64 x.en, .int .i64 (l.i : Int), .int .i64 l.en] 58))
  have HBl := Lib.hid ((((Below.refl B0 W).alloc (by have := h.b0; omega) (.cells #[.int .i64 (x.i : Int), .int .i64 x.en] 58)).alloc (by have := h.b0; simp; omega) (.cells #[.int .i64 (l.i : Int), .int .i64 l.en] 58)).alloc (by have := h.b0; simp; omega) (.cells #[.int .i64 (x.i : Int), .int .i64 x.en, .int .i64 (l.i : Int), .int .i64 l.en] 58))
  have hb4 : Blk (((W.alloc (.cells #[.int .i64 (x.i : Int), .int .i64 x.en] 58)).alloc (.cells #[.int .i64 (l.i : Int), .int .i64 l.en] 58)).alloc (.cells #[.int .i64 (x.i : Int), .int .i64 x.en, .int .i64 (l.i : Int), .int .i64 l.en] 58)) (W.heap.size + 1 + 1) 58 #[.int .i64 (x.i : Int), .int .i64 x.en, .int .i64 (l.i : Int), .int .i64 l.en] := Blk.newAt (by simp)
  have hbx : Blk (((W.alloc (.cells #[.int .i64 (x.i : Int), .int .i64 x.en] 58)).alloc (.cells #[.int .i64 (l.i : Int), .int .i64 l.en] 58)).alloc (.cells #[.int .i64 (x.i : Int), .int .i64 x.en, .int .i64 (l.i : Int), .int .i64 l.en] 58)) W.heap.size 58 #[.int .i64 (x.i : Int), .int .i64 x.en] := ((Blk.new W _ _).alloc _).alloc _
  have hbl : Blk (((W.alloc (.cells #[.int .i64 (x.i : Int), .int .i64 x.en] 58)).alloc (.cells #[.int .i64 (l.i : Int), .int .i64 l.en] 58)).alloc (.cells #[.int .i64 (x.i : Int), .int .i64 x.en, .int .i64 (l.i : Int), .int .i64 l.en] 58)) (W.heap.size + 1) 58 #[.int .i64 (l.i : Int), .int .i64 l.en] := (Blk.newAt (by simp)).alloc _
  have HL := Lib.hid (less2_any _ (W.heap.size + 1 + 1) x l ((hb4.cell 0).trans rfl) ((hb4.cell 1).trans rfl) ((hb4.cell 2).trans rfl) ((hb4.cell 3).trans rfl))
  rw [hlo] at HL
  have HBX := Lib.hid hbx
  have HBLL := Lib.hid hbl
  have hz1 : (W.alloc (.cells #[.int .i64 (x.i : Int), .int .i64 x.en] 58)).heap.size = W.heap.size + 1 := by simp
  have HCW := Lib.hid (h.b0)
  have HTW := Lib.hid hT
  have hil : l.i < hs.length := (List.getElem?_eq_some_iff.1 hlN).1
  have HLN := Lib.hid hlN
  clear h hcs hfz hb4 hbx hbl hlo hT hlN
  go_enter Tryd.func24, Tryd.ntmps24
  go_wp2_with fail
  refine HL.out.mono ?_
  rintro e w2 ⟨rfl, hb2⟩
  have HA2 := Lib.hid (HAl.out.below hb2)
  have HB2 := Lib.hid (HBl.out.trans (hb2.mono (by have := HAl.out.b0; have := HAl.out.blk.lt; omega)))
  have HX2 := Lib.hid (HBX.out.below hb2 HBX.out.lt)
  have HL2 := Lib.hid (HBLL.out.below hb2 HBLL.out.lt)
  clear hb2 l0 l1 f1 f0 hz1
  obtain ⟨g0, g1, g2, g3, gf⟩ := HA2.out.facts
  have l0 := (HL2.out.cell 0).trans (show _ = some (Value.int .i64 (l.i : Int)) from rfl)
  obtain ⟨q0, q1⟩ := hmCells_get hs l.i _ HLN.out
  have h0 := (HA2.out.hom.cell (l.i * 2)).trans (show _ = some (Value.bool false) by simpa using q0)
  have h1 := (HA2.out.hom.cell (l.i * 2 + 1)).trans (show _ = some (Value.int .i64 (N : Int)) by simpa using q1)
  obtain ⟨p1, p2⟩ := pow6 hN
  have o1 : bits .or .u64 (0 : Int) ((2 ^ N : Nat) : Int) = ((2 ^ N : Nat) : Int) := by
    have := (or_u64 0 (2 ^ N) (by decide) p1).1
    rw [Nat.zero_or] at this
    exact this
  have n0 : (0 : Int) ≤ (N : Int) := by omega
  have n1 : (N : Int) ≤ 64 := by omega
  have i0 : (0 : Int) ≤ (l.i : Int) := by omega
  have i1 : (l.i : Int) < (hs.length : Int) := by omega
  have HF2 := Lib.hid (HA2.out.setF (2 ^ N)).drew
  have HFB := Lib.hid ((HB2.out.setCell (p := ⟨Ba, 1, none⟩) (by exact HA2.out.b0) (.int .u64 ((2 ^ N : Nat) : Int))).drew)
  have HFX := Lib.hid ((HX2.out.far (p := ⟨Ba, 1, none⟩) (by exact HX2.out.ne_ty HA2.out.blk (by decide)) (.int .u64 ((2 ^ N : Nat) : Int))).drew)
  have HFL := Lib.hid ((HL2.out.far (p := ⟨Ba, 1, none⟩) (by exact HL2.out.ne_ty HA2.out.blk (by decide)) (.int .u64 ((2 ^ N : Nat) : Int))).drew)
  have HPW := Lib.hid (show 2 ^ N < 64 ∧ 2 ^ N ≠ 0 from ⟨p1, Nat.pos_iff_ne_zero.1 (Nat.two_pow_pos N)⟩)
  generalize hm : (2 : Nat) ^ N = fr2 at *
  clear q0 q1 hm p1
  go_wp2_with fail
  go_big_region
  clear g0 g1 g2 g3 gf l0 h0 h1 o1 p2
  generalize (w2.setCell ⟨Ba, 1, none⟩ (.int .u64 (fr2 : Int))).drew = w3 at *
  go_wp2_with fail
  refine (Pop_any HF2.out (by omega) hn0).mono ?_
  rintro e w4 ⟨ev4, es4, rfl, hp4, hA4, hF4, hFs4⟩
  have hx4 := hF4.kp.blk HFX.out (by
    rintro (h | h | h)
    · exact HFX.out.ne_ty HF2.out.blk (by decide) h
    · exact HFX.out.ne_ty HF2.out.hom (by decide) h
    · have := hne0 _ h; omega)
  have hl4 := hF4.kp.blk HFL.out (by
    rintro (h | h | h)
    · exact HFL.out.ne_ty HF2.out.blk (by decide) h
    · exact HFL.out.ne_ty HF2.out.hom (by decide) h
    · have := hne0 _ h; omega)
  have hl3 : W.heap.size < w3.heap.size := HFX.out.lt
  have hev4 : ev4.ownBlock ≠ some W.heap.size := fun h => by
    rcases hFs4 _ h with h2 | h2
    · have := hne0 _ h2; omega
    · omega
  have l0 := (hl4.cell 0).trans (show _ = some (Value.int .i64 (l.i : Int)) from rfl)
  have HSL := Lib.hid (slot_any hA4 l.i hil hl hs0)
  have HX4 := Lib.hid hx4
  have HA4 := Lib.hid hA4
  have HP4 := Lib.hid hp4
  have HB4 := Lib.hid (HFB.out.trans hF4.bel)
  have HEV4 := Lib.hid hev4
  clear hp4 hA4 hF4 hFs4 hx4 hl4 hev4 hne0
  go_wp2_with fail
  refine HSL.out.mono ?_
  rintro e w5 ⟨rfl, hA5⟩
  clear l0
  have hx5 := hA5.2.kp.blk HX4.out (by
    rintro (h | h | h)
    · exact HX4.out.ne_ty HA4.out.blk (by decide) h
    · exact HX4.out.ne_ty HA4.out.hom (by decide) h
    · exact HEV4.out h)
  have HG := Lib.hid (show GvW B0 w5 Ba Bh ev4 es4 fr2 (hs.set l.i ⟨true, (sl : Int)⟩) (sl + 1) W.heap.size x from ⟨hA5.1, hx5, HEV4.out⟩)
  have HBl := Lib.hid (HB4.out.trans hA5.2.bel)
  have HT := Lib.hid (tab_below HTW.out hB HBl.out)
  have hr6 : Lib.ctz 64 fr2 < 6 := ctz_lt ⟨fr2, HPW.out.1⟩ HPW.out.2
  have hf : fr2 < 64 := HPW.out.1
  have hz := Lib.hid (fun w => tz_any fr2 (by omega) HPW.out.2 w)
  have hi1 : x.i < (hs.set l.i ⟨true, (sl : Int)⟩).length := by rw [List.length_set]; exact hi
  have hl1 : (hs.set l.i ⟨true, (sl : Int)⟩).length ≤ 1000000 := by rw [List.length_set]; exact hl
  have hn4 : es4.length ≤ 6 := by rw [HP4.out.length_eq]; exact hn
  have HFIN := Lib.hid (fun (w9 : World) (ev' : Value) (es' : List Hd) (hp : es'.Perm (es4 ++ [x])) (hA : AlW B0 w9 Ba Bh ev' es' (clr fr2 (Lib.ctz 64 fr2)) ((hs.set l.i ⟨true, (sl : Int)⟩).set x.i ⟨false, ((Lib.ctz 64 fr2 : Nat) : Int)⟩) (sl + 1)) (hb : Below B0 W w9) =>
    (show GiveP B0 W Ba Bh (rest ++ [x]) (clr fr2 (Lib.ctz 64 fr2)) ((hs.set l.i ⟨true, (sl : Int)⟩).set x.i ⟨false, ((Lib.ctz 64 fr2 : Nat) : Int)⟩) (sl + 1) (.returned (.tuple #[])) w9 from ⟨ev', es', rfl, hp.trans (HP4.out.append_right _), hA, hb⟩))
  have f1 := HG.out.al.facts.2.1
  have e0' : ((fr2 : Int) == 0) = false := beq_eq_false_iff_ne.2 (by have := HPW.out.2; omega)
  clear hA5 hx5 HSL
  generalize Lib.ctz 64 fr2 = r at *
  generalize W.heap.size = bx at *
  generalize hs.set l.i ⟨true, (sl : Int)⟩ = hs1 at *
  clear hl hi hil i0 i1 n0 n1
  go_wp2_with fail
  refine (hz.out _ HT.out).mono ?_
  rintro e w' ⟨rfl, rfl⟩
  clear f1
  obtain ⟨g0, g1, g2, g3, gf⟩ := HG.out.al.facts
  have px0 := (HG.out.px.cell 0).trans (show _ = some (Value.int .i64 (x.i : Int)) from rfl)
  have px1 := (HG.out.px.cell 1).trans (show _ = some (Value.int .i64 x.en) from rfl)
  obtain ⟨p1, p2⟩ := pow6 hr6
  have an := andNot_u64 hf hr6
  have r0 : (0 : Int) ≤ (r : Int) := by omega
  have r1 : (r : Int) ≤ 64 := by omega
  have HS := Lib.hid (HG.out.setF (clr fr2 r)).drew
  have HSB := Lib.hid ((HBl.out.setCell (p := ⟨Ba, 1, none⟩) (by exact HG.out.al.b0) (.int .u64 ((clr fr2 r : Nat) : Int))).drew)
  generalize hm : (2 : Nat) ^ r = m at *
  clear hm
  go_wp2_with fail
  go_big_region
  clear g0 g1 g2 g3 gf px0 px1 an p1 p2
  generalize (w5.setCell ⟨Ba, 1, none⟩ (.int .u64 ((clr fr2 r : Nat) : Int))).drew = W2 at *
  obtain ⟨g0, g1, g2, g3, gf⟩ := HS.out.al.facts
  have px0 := (HS.out.px.cell 0).trans (show _ = some (Value.int .i64 (x.i : Int)) from rfl)
  have px1 := (HS.out.px.cell 1).trans (show _ = some (Value.int .i64 x.en) from rfl)
  obtain ⟨y, hy⟩ : ∃ y, hs1[x.i]? = some y := ⟨hs1[x.i], List.getElem?_eq_getElem hi1⟩
  obtain ⟨q0, q1⟩ := hmCells_get hs1 x.i _ hy
  have h0 := (HS.out.al.hom.cell (x.i * 2)).trans (show _ = some (Value.bool y.isSlot) by simpa using q0)
  have h1 := (HS.out.al.hom.cell (x.i * 2 + 1)).trans (show _ = some (Value.int .i64 y.n) by simpa using q1)
  have fh := HS.out.al.hom.frozen
  have i0 : (0 : Int) ≤ (x.i : Int) := by omega
  have i1 : (x.i : Int) < (hs1.length : Int) := by omega
  have HH := Lib.hid (HS.out.setH hi1 ⟨false, (r : Int)⟩).drew
  have HHB := Lib.hid (((HSB.out.setCell (p := ⟨Bh, x.i * 2, none⟩) (by exact HS.out.al.b1) (.bool false)).setCell (p := ⟨Bh, x.i * 2 + 1, none⟩) (by exact HS.out.al.b1) (.int .i64 (r : Int))).drew)
  simp only at HH
  clear q0 q1 hy
  go_wp2_with fail
  go_big_region
  clear g0 g1 g2 g3 gf px0 px1 h0 h1 fh
  generalize ((W2.setCell ⟨Bh, x.i * 2, none⟩ (.bool false)).setCell ⟨Bh, x.i * 2 + 1, none⟩ (.int .i64 (r : Int))).drew = W3 at *
  have px0 := (HH.out.px.cell 0).trans (show _ = some (Value.int .i64 (x.i : Int)) from rfl)
  have px1 := (HH.out.px.cell 1).trans (show _ = some (Value.int .i64 x.en) from rfl)
  have HP := Lib.hid (fun n => Push_any (HH.out.al.drewN n) (by omega) x)
  go_wp2_with fail
  refine region_tail (C := fun w' => ∃ m, w' = W3.drewN m) 6 (by kernel_rfl) ⟨1, rfl⟩ (by kernel_rfl) (by rfl) (by kernel_rfl) (by kernel_rfl) (by kernel_rfl) (by kernel_rfl) ?_
  simp only [List.take_succ_cons, List.take_zero, List.drop_succ_cons, List.drop_zero]
  repeat (go_big_quiet_step (fail))
  refine wpQuiet_nil ?_
  rintro _ ⟨mm, rfl⟩
  go_wp2_with fail
  refine (HP.out mm).mono ?_
  rintro e w9 ⟨ev', es', rfl, hp, hA⟩
  have HE := Lib.hid (HFIN.out w9 ev' es' hp hA.1 ((below_drewN HHB.out mm).trans hA.2.1.bel))
  clear hp hA
  go_wp2_with fail
  go_end0
  exact HE.out
end
end Go.Proofs.YtfgdkeomjplnnaaDoor

/- The allocator's give. Conditions: sizes; the table is as it is laid. -/
import Derived.Test.YtfgdkeomjplnnaaDoorAlJ
namespace Go.Proofs.YtfgdkeomjplnnaaDoor
set_option linter.unusedVariables false
open Go.RowKit
attribute [local irreducible] Blk
theorem ctz_lt : ∀ fr : Fin 64, (fr : Nat) ≠ 0 → Lib.ctz 64 fr < 6 := by decide +kernel
structure GvW (B0 : Nat) (W : World) (Ba Bh : Nat) (ev : Value) (es : List Hd) (fr : Nat) (hs : List Hm) (sl bx : Nat) (x : Hd) : Prop where
  al : AlW B0 W Ba Bh ev es fr hs sl
  px : Blk W bx 58 x.arr
  ne : ev.ownBlock ≠ some bx
section
variable {B0 : Nat} {W : World} {Ba Bh : Nat} {ev : Value} {es : List Hd} {fr : Nat} {hs : List Hm} {sl bx : Nat} {x : Hd}
theorem GvW.alloc (h : GvW B0 W Ba Bh ev es fr hs sl bx x) (o : Obj) : GvW B0 (W.alloc o) Ba Bh ev es fr hs sl bx x := ⟨h.al.alloc o, h.px.alloc o, h.ne⟩
theorem GvW.drew (h : GvW B0 W Ba Bh ev es fr hs sl bx x) : GvW B0 W.drew Ba Bh ev es fr hs sl bx x := ⟨h.al.drew, h.px.drew, h.ne⟩
theorem GvW.drewN (h : GvW B0 W Ba Bh ev es fr hs sl bx x) (n : Nat) : GvW B0 (W.drewN n) Ba Bh ev es fr hs sl bx x := ⟨h.al.drewN n, h.px.drewN n, h.ne⟩
theorem GvW.setF (h : GvW B0 W Ba Bh ev es fr hs sl bx x) (f : Nat) : GvW B0 (W.setCell ⟨Ba, 1, none⟩ (.int .u64 (f : Int))) Ba Bh ev es f hs sl bx x := ⟨h.al.setF f, h.px.far (by exact h.px.ne_ty h.al.blk (by decide)) _, h.ne⟩
theorem GvW.setH (h : GvW B0 W Ba Bh ev es fr hs sl bx x) {k : Nat} (hk : k < hs.length) (y : Hm) : GvW B0 ((W.setCell ⟨Bh, k * 2, none⟩ (.bool y.isSlot)).setCell ⟨Bh, k * 2 + 1, none⟩ (.int .i64 y.n)) Ba Bh ev es fr (hs.set k y) sl bx x :=
  ⟨h.al.setH hk y, (h.px.far (by exact h.px.ne_ty h.al.hom (by decide)) _).far (by exact h.px.ne_ty h.al.hom (by decide)) _, h.ne⟩
theorem andNot_u64 {a r : Nat} (ha : a < 64) (hr : r < 6) : bits .andNot .u64 (a : Int) ((2 ^ r : Nat) : Int) = ((clr a r : Nat) : Int) := by
  have := (pow6 hr).1
  exact u64_andNot_nat a (2 ^ r) (by omega) (by omega)
def GiveP (B0 : Nat) (W : World) (Ba Bh : Nat) (es : List Hd) (fr : Nat) (hs : List Hm) (sl : Nat) (e : Ending) (w' : World) : Prop :=
  ∃ ev' es', e = .returned (.tuple #[]) ∧ es'.Perm es ∧ AlW B0 w' Ba Bh ev' es' fr hs sl ∧ Below B0 W w'
set_option maxRecDepth 100000 in
set_option maxHeartbeats 1600000 in
theorem give_free (h : AlW B0 W Ba Bh ev es fr hs sl) (hn : es.length ≤ 6) (hl : hs.length ≤ 1000000) (hi : x.i < hs.length) (hf0 : fr ≠ 0) (hf : fr < 64) (hT : TabAt 1 Lib.deBruijn64tab W) (hB : 1 < B0) :
    Calls Tryd.prog 24 #[.pointer (some ⟨Ba, 0, none⟩), .agg #[.int .i64 (x.i : Int), .int .i64 x.en]] W (GiveP B0 W Ba Bh (es ++ [x]) (clr fr (Lib.ctz 64 fr)) (hs.set x.i ⟨false, ((Lib.ctz 64 fr : Nat) : Int)⟩) sl) := by
  have hG : GvW B0 (W.alloc (.cells #[.int .i64 (x.i : Int), .int .i64 x.en] 58)) Ba Bh ev es fr hs sl W.heap.size x := ⟨h.alloc _, Blk.new W _ _, fun e => by have := (h.row.lt _ e).2; omega⟩
  have hBl := (Below.refl B0 W).alloc (by have := h.b0; have := h.blk.lt; omega) (.cells #[.int .i64 (x.i : Int), .int .i64 x.en] 58)
  have HT := Lib.hid (tab_below hT hB hBl)
  have HG := Lib.hid hG
  have HBl := Lib.hid hBl
  have hr6 : Lib.ctz 64 fr < 6 := ctz_lt ⟨fr, hf⟩ hf0
  have hz := Lib.hid (fun w => tz_any fr (by omega) hf0 w)
  have f1 := h.facts.2.1
  have lBa := h.blk.lt
  have e0 : ((fr : Int) == 0) = false := beq_eq_false_iff_ne.2 (by omega)
  clear hG hBl h hT
  generalize Lib.ctz 64 fr = r at *
  go_enter Tryd.func24, Tryd.ntmps24
  go_wp2_with fail
  refine (hz.out _ HT.out).mono ?_
  rintro e w' ⟨rfl, rfl⟩
  clear f1
  have hbx : W.heap.size < (W.alloc (.cells #[.int .i64 (x.i : Int), .int .i64 x.en] 58)).heap.size := by simp
  generalize W.alloc (.cells #[.int .i64 (x.i : Int), .int .i64 x.en] 58) = W1 at *
  generalize W.heap.size = bx at *
  obtain ⟨g0, g1, g2, g3, gf⟩ := HG.out.al.facts
  have px0 := (HG.out.px.cell 0).trans (show _ = some (Value.int .i64 (x.i : Int)) from rfl)
  have px1 := (HG.out.px.cell 1).trans (show _ = some (Value.int .i64 x.en) from rfl)
  obtain ⟨p1, p2⟩ := pow6 hr6
  have an := andNot_u64 hf hr6
  have r0 : (0 : Int) ≤ (r : Int) := by omega
  have r1 : (r : Int) ≤ 64 := by omega
  have HS := Lib.hid (HG.out.setF (clr fr r)).drew
  have HSB := Lib.hid ((HBl.out.setCell (p := ⟨Ba, 1, none⟩) (by exact HG.out.al.b0) (.int .u64 ((clr fr r : Nat) : Int))).drew)
  generalize hm : (2 : Nat) ^ r = m at *
  clear hm
  go_wp2_with fail
  go_big_region
  clear g0 g1 g2 g3 gf px0 px1 an p1 p2
  generalize (W1.setCell ⟨Ba, 1, none⟩ (.int .u64 ((clr fr r : Nat) : Int))).drew = W2 at *
  obtain ⟨g0, g1, g2, g3, gf⟩ := HS.out.al.facts
  have px0 := (HS.out.px.cell 0).trans (show _ = some (Value.int .i64 (x.i : Int)) from rfl)
  have px1 := (HS.out.px.cell 1).trans (show _ = some (Value.int .i64 x.en) from rfl)
  obtain ⟨y, hy⟩ : ∃ y, hs[x.i]? = some y := ⟨hs[x.i], List.getElem?_eq_getElem hi⟩
  obtain ⟨q0, q1⟩ := hmCells_get hs x.i _ hy
  have h0 := (HS.out.al.hom.cell (x.i * 2)).trans (show _ = some (Value.bool y.isSlot) by simpa using q0)
  have h1 := (HS.out.al.hom.cell (x.i * 2 + 1)).trans (show _ = some (Value.int .i64 y.n) by simpa using q1)
  have fh := HS.out.al.hom.frozen
  have i0 : (0 : Int) ≤ (x.i : Int) := by omega
  have i1 : (x.i : Int) < (hs.length : Int) := by omega
  have HH := Lib.hid (HS.out.setH hi ⟨false, (r : Int)⟩).drew
  have HHB := Lib.hid (((HSB.out.setCell (p := ⟨Bh, x.i * 2, none⟩) (by exact HS.out.al.b1) (.bool false)).setCell (p := ⟨Bh, x.i * 2 + 1, none⟩) (by exact HS.out.al.b1) (.int .i64 (r : Int))).drew)
  simp only at HH
  clear q0 q1 hy
  go_wp2_with fail
  go_big_region
  clear g0 g1 g2 g3 gf px0 px1 h0 h1 fh
  generalize ((W2.setCell ⟨Bh, x.i * 2, none⟩ (.bool false)).setCell ⟨Bh, x.i * 2 + 1, none⟩ (.int .i64 (r : Int))).drew = W3 at *
  have px0 := (HH.out.px.cell 0).trans (show _ = some (Value.int .i64 (x.i : Int)) from rfl)
  have px1 := (HH.out.px.cell 1).trans (show _ = some (Value.int .i64 x.en) from rfl)
  have HP := Lib.hid (fun n => Push_any (HH.out.al.drewN n) (by omega) x)
  go_wp2_with fail
  refine region_tail (C := fun w' => ∃ m, w' = W3.drewN m) 6 (by kernel_rfl) ⟨1, rfl⟩ (by kernel_rfl) (by rfl) (by kernel_rfl) (by kernel_rfl) (by kernel_rfl) (by kernel_rfl) ?_
  simp only [List.take_succ_cons, List.take_zero, List.drop_succ_cons, List.drop_zero]
  repeat (go_big_quiet_step (fail))
  refine wpQuiet_nil ?_
  rintro _ ⟨mm, rfl⟩
  go_wp2_with fail
  refine (HP.out mm).mono ?_
  rintro e w5 ⟨ev', es', rfl, hp, hA⟩
  have HE := Lib.hid (show GiveP B0 W Ba Bh (es ++ [x]) (clr fr r) (hs.set x.i ⟨false, (r : Int)⟩) sl (.returned (.tuple #[])) w5 from ⟨ev', es', rfl, hp, hA.1, (below_drewN HHB.out mm).trans hA.2.1.bel⟩)
  clear hp hA
  go_wp2_with fail
  go_end0
  exact HE.out
end
end Go.Proofs.YtfgdkeomjplnnaaDoor

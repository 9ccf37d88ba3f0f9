/- The allocator's release and slot; where a span ends. Conditions: sizes. -/
import Derived.Test.YtfgdkeomjplnnaaDoorAlH
import Derived.Deep.RegionHeld3
namespace Go.Proofs.YtfgdkeomjplnnaaDoor
set_option linter.unusedVariables false
open Go.RowKit
attribute [local irreducible] Blk
section
variable {B0 : Nat} {W : World} {Ba Bh : Nat} {ev : Value} {es : List Hd} {fr : Nat} {hs : List Hm} {sl : Nat} {at' : Int}
/-- The row is cut to its first elements. -/
theorem AlW.cutTo {a : Option Addr} {cp : Nat} (h : AlW B0 W Ba Bh (.slice a es.length cp) es fr hs sl) {k : Nat} (hk : k ≤ es.length) : AlW B0 (W.setCell ⟨Ba, 0, none⟩ (.slice a k cp)) Ba Bh (.slice a k cp) (es.take k) fr hs sl := by
  have hkl : (es.take k).length = k := by rw [List.length_take]; omega
  have hr : W.ownsRow B0 58 2 (.slice a k cp) (es.take k).length (hdCells (es.take k)) := by
    refine ⟨hdCells_len _, ?_⟩
    rw [hkl]
    rcases h.row.2 with ⟨h0, h1⟩ | ⟨g', cap', cur, he, hb, hh, h1, h2, h3, h4⟩
    · have h2 : a = none ∧ es.length = 0 ∧ cp = 0 := by simpa using h0
      obtain ⟨rfl, h3, rfl⟩ := h2
      exact .inl ⟨by rw [show k = 0 by omega], by omega⟩
    · obtain ⟨rfl, rfl⟩ : a = some ⟨g', 0, none⟩ ∧ cp = cap' := by simpa using he
      refine .inr ⟨g', cp, cur, rfl, hb, hh, by omega, h2, h3, ?_⟩
      have h5 := congrArg (List.take (k * 2)) h4
      rw [List.take_take, Nat.min_eq_left (by omega)] at h5
      rw [h5]
      have h6 : hdCells es = hdCells (es.take k) ++ hdCells (es.drop k) := by rw [← hdCells_append, List.take_append_drop]
      rw [h6, List.take_append_of_le_length (by rw [hdCells_len, hkl]; omega), List.take_of_length_le (by rw [hdCells_len, hkl]; omega)]
  have hna : (Value.slice a k cp).ownBlock ≠ some Ba := fun e => h.na (by cases a <;> exact e)
  exact ⟨h.blk.set 0 _, h.hom.far (by exact h.ah.symm) _, ownsRow_far hr (by exact hna) _, h.b0, h.b1⟩
def RelP (B0 : Nat) (W : World) (Ba Bh : Nat) (es : List Hd) (fr : Nat) (hs : List Hm) (sl : Nat) (at' : Int) (e : Ending) (w' : World) : Prop :=
  ∃ ev' es', e = .returned (.tuple #[]) ∧ es'.Perm (keptL at' es) ∧ HeapFrom es' 0 es'.length ∧ AlW B0 w' Ba Bh ev' es' (relL at' hs fr es) hs sl ∧ Below B0 W w'
set_option maxRecDepth 100000 in
set_option maxHeartbeats 1600000 in
theorem release_any (h : AlW B0 W Ba Bh ev es fr hs sl) (hx : ∀ x ∈ es, HasReg hs x) (hf : fr < 64) (hl : hs.length ≤ 1000000) (hn : es.length ≤ 6) :
    Calls Tryd.prog 23 #[.pointer (some ⟨Ba, 0, none⟩), .int .i64 at'] W (RelP B0 W Ba Bh es fr hs sl at') := by
  have HB0 := Lib.hid (show B0 ≤ W.heap.size by have := h.b0; have := h.blk.lt; omega)
  have hR : RlW B0 ((W.alloc (.cells #[.pointer (some ⟨Ba, 0, none⟩)] 48)).alloc (.cells #[.int .i64 at'] 3)) Ba Bh ev es fr hs sl W.heap.size (W.heap.size + 1) at' :=
    ⟨(h.alloc _).alloc _, (Blk.new W _ _).alloc _, Blk.newAt (by simp)⟩
  have HBl := Lib.hid (((Below.refl B0 W).alloc HB0.out (.cells #[.pointer (some ⟨Ba, 0, none⟩)] 48)).alloc (by have := HB0.out; simp; omega) (.cells #[.int .i64 at'] 3))
  obtain ⟨a0, cp0, rfl⟩ := h.ev_slice
  have f0 := h.facts.1
  have lBa := h.blk.lt
  have HR := Lib.hid hR
  have HX := Lib.hid hx
  clear hR h hx
  go_enter Tryd.func23, Tryd.ntmps23
  go_wp2_with fail
  have p2 := (HR.out.p2.cell 0).trans (show _ = some (Value.pointer (some ⟨Ba, 0, none⟩)) from rfl)
  have pa := HR.out.al.facts.1
  have pf := HR.out.al.blk.frozen
  have pl : Ba < ((W.alloc (.cells #[.pointer (some ⟨Ba, 0, none⟩)] 48)).alloc (.cells #[.int .i64 at'] 3)).heap.size := HR.out.al.blk.lt
  have hb2 : W.heap.size < ((W.alloc (.cells #[.pointer (some ⟨Ba, 0, none⟩)] 48)).alloc (.cells #[.int .i64 at'] 3)).heap.size := HR.out.p2.lt
  generalize ((W.alloc (.cells #[.pointer (some ⟨Ba, 0, none⟩)] 48)).alloc (.cells #[.int .i64 at'] 3)) = W2 at *
  have HD := Lib.hid (fun n => del_any (HR.out.drewN n) HX.out hf hl hn)
  unfold DelP at HD
  simp only [reslice] at HD
  have n2 : ¬ W.heap.size = Ba := by omega
  have n3 : ¬ Ba = W.heap.size := by omega
  go_region_with (go_at_call 37; refine (HD.out 1).mono ?_; rintro e w3 ⟨rfl, hB3, m, hm1, hm2, h3⟩; have p2' := (h3.p2.cell 0).trans (show _ = some (Value.pointer (some ⟨Ba, 0, none⟩)) from rfl); have pa' := h3.al.facts.1; have pf' := h3.al.blk.frozen)
  all_goals
    have hkl : (keptL at' es).length ≤ m.length := by rw [hm1]; exact List.length_filter_le _ _
    have hc := (show AlW B0 w3 Ba Bh (.slice a0 m.length cp0) m (relL at' hs fr es) hs sl by rw [hm1]; exact h3.al).cutTo hkl
    rw [hm2] at hc
    have HC := Lib.hid hc
    have HCB := Lib.hid ((HBl.out.trans (below_drewN (Below.refl B0 W2) 1)).trans (hB3.setCell (p := ⟨Ba, 0, none⟩) (by exact HC.out.b0) (.slice a0 (keptL at' es).length cp0)))
    have HIN := Lib.hid (Init_any HC.out (by omega))
    have HQ2 := Lib.hid ((World.cell?_setCell_other w3 ⟨Ba, 0, none⟩ ⟨W.heap.size, 0, none⟩ (.slice a0 (keptL at' es).length cp0) (by intro e; simp only [Addr.mk.injEq] at e; omega)).trans p2')
    clear hc h3 hB3 hm1 hm2 p2' pa' pf' p2 pa pf
    generalize w3.setCell ⟨Ba, 0, none⟩ (.slice a0 (keptL at' es).length cp0) = w4 at *
    have q2 : w4.cell? ⟨W.heap.size, 0, none⟩ = some (.pointer (some ⟨Ba, 0, none⟩)) := HQ2.out
    go_wp2_with fail
    refine HIN.out.mono ?_
    rintro e w5 ⟨es', rfl, hp, hh, hA5⟩
    have HE := Lib.hid (show RelP B0 W Ba Bh es fr hs sl at' (.returned (.tuple #[])) w5 from ⟨_, es', rfl, hp, hh, hA5.1, HCB.out.trans hA5.2.bel⟩)
    clear hp hh hA5
    go_wp2_with fail
    go_end0
    exact HE.out
end
end Go.Proofs.YtfgdkeomjplnnaaDoor

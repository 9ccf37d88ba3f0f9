/- container/heap's Pop over the allocator's row. Conditions: sizes. -/
import Derived.Test.YtfgdkeomjplnnaaDoorAlD
namespace Go.Proofs.YtfgdkeomjplnnaaDoor
set_option linter.unusedVariables false
open Go.RowKit
attribute [local irreducible] Blk
section
variable {B0 : Nat} {W : World} {Ba Bh : Nat} {ev : Value} {es : List Hd} {fr : Nat} {hs : List Hm} {sl : Nat}
/-- The last element is cut off. -/
theorem AlW.cut {x : Hd} {g cap : Nat} (h : AlW B0 W Ba Bh (.slice (some ⟨g, 0, none⟩) (es.length + 1) cap) (es ++ [x]) fr hs sl) : AlW B0 (W.setCell ⟨Ba, 0, none⟩ (.slice (some ⟨g, 0, none⟩) es.length cap)) Ba Bh (.slice (some ⟨g, 0, none⟩) es.length cap) es fr hs sl := by
  have hr : W.ownsRow B0 58 2 (.slice (some ⟨g, 0, none⟩) es.length cap) es.length (hdCells es) := by
    refine ⟨hdCells_len es, ?_⟩
    rcases h.row.2 with ⟨h0, _⟩ | ⟨g', cap', cur, he, hb, hh, h1, h2, h3, h4⟩
    · cases h0
    · obtain ⟨rfl, rfl⟩ : g = g' ∧ cap = cap' := by simpa using he
      refine .inr ⟨g, cap, cur, rfl, hb, hh, by rw [List.length_append] at h1; omega, h2, h3, ?_⟩
      rw [List.length_append, hdCells_append] at h4
      have h5 := congrArg (List.take (es.length * 2)) h4
      rw [List.take_take, Nat.min_eq_left (by omega)] at h5
      rw [h5, List.take_append_of_le_length (by rw [hdCells_len]; omega), List.take_of_length_le (by rw [hdCells_len]; omega)]
  exact ⟨h.blk.set 0 _, h.hom.far (by exact h.ah.symm) _, ownsRow_far hr (by exact h.na) _, h.b0, h.b1⟩
def PopP (B0 : Nat) (W : World) (Ba Bh : Nat) (ev : Value) (x : Hd) (es : List Hd) (fr : Nat) (hs : List Hm) (sl : Nat) (e : Ending) (w' : World) : Prop :=
  ∃ ev', e = .returned (.iface 58 (.agg #[.int .i64 (x.i : Int), .int .i64 x.en])) ∧ AlW B0 w' Ba Bh ev' es fr hs sl ∧ Frm B0 W Ba Bh ev w' ∧ Fresh W ev ev'
set_option maxRecDepth 100000 in
set_option maxHeartbeats 1600000 in
theorem EPop_any {x : Hd} (h : AlW B0 W Ba Bh ev (es ++ [x]) fr hs sl) (hl : es.length ≤ 1000) :
    Calls Tryd.prog 103 #[.pointer (some ⟨Ba, 0, none⟩)] W (PopP B0 W Ba Bh ev x es fr hs sl) := by
  obtain ⟨g, cap, rfl, hcap, hg0, hg1, hga, hgh, hcs, hfz⟩ := h.form (by simp)
  obtain ⟨x0, x1⟩ := hcs es.length x (by simp)
  rw [List.length_append, List.length_singleton] at h hcap
  have hb0 := h.b0
  have HN := Lib.hid (h.cut.alloc (.cells #[.int .i64 (x.i : Int), .int .i64 x.en] 58))
  have HB := Lib.hid (((Below.refl B0 W).setCell (p := ⟨Ba, 0, none⟩) (by exact hb0) (.slice (some ⟨g, 0, none⟩) es.length cap)).alloc (by have := h.blk.lt; simp; omega) (.cells #[.int .i64 (x.i : Int), .int .i64 x.en] 58))
  have c0 := h.facts.1
  have hlt := h.blk.lt
  have f0 := h.blk.frozen
  have hne : ¬ W.heap.size = Ba := by omega
  clear h hcs hfz
  obtain ⟨xi, xe⟩ := x
  simp only at x0 x1 HB HN
  have hz : ∀ o, (W.alloc o).heap.size = W.heap.size + 1 := fun o => by simp
  go_enter Tryd.func103, Tryd.ntmps103
  go_wp2_with fail
  go_ret
  exact ⟨_, rfl, HN.out, ⟨HB.out, ((Keep.refl W _).setCell _ (fun _ => .inl rfl) _).alloc _⟩, fun k hk => .inl (by simpa [Value.ownBlock] using hk)⟩
set_option maxRecDepth 100000 in
set_option maxHeartbeats 1600000 in
theorem Pop_any {x : Hd} {r : List Hd} (h : AlW B0 W Ba Bh ev (x :: r) fr hs sl) (hl : r.length ≤ 900) (hr : 0 < r.length) :
    Calls Tryd.prog 42 #[.iface 75 (.pointer (some ⟨Ba, 0, none⟩))] W fun e w' => ∃ ev' es', e = .returned (.iface 58 (.agg #[.int .i64 (x.i : Int), .int .i64 x.en])) ∧ es'.Perm r ∧ AlW B0 w' Ba Bh ev' es' fr hs sl ∧ Frm B0 W Ba Bh ev w' ∧ Fresh W ev ev' := by
  have H := Lib.hid h
  have c0 := h.facts.1
  have hm := len_240 c0
  clear h
  go_enter Tryd.func42, Tryd.ntmps42
  go_wp2_with fail
  refine (len_al H.out).mono ?_
  rintro e w' ⟨rfl, rfl⟩
  have hlen : (x :: r).length = r.length + 1 := by simp
  rw [hlen]
  clear hlen hm
  have hm := swap_240 c0
  have e1 : (((r.length + 1 : Nat) : Int) - 1) = (r.length : Int) := by omega
  obtain ⟨y, hy⟩ : ∃ y, (x :: r)[r.length]? = some y := ⟨(x :: r)[r.length], List.getElem?_eq_getElem (by simp)⟩
  have HY := Lib.hid hy
  clear hy
  go_wp2_with fail
  refine (swap_al H.out (by simp; omega) 0 r.length x y rfl HY.out (by omega) _ _ (by omega) (by omega)).mono ?_
  rintro e w2 ⟨rfl, hA2⟩
  have HA2 := Lib.hid hA2
  clear hA2 hm c0
  have HD := Lib.hid (down_any HA2.out.1 (by rw [swp_len]; simp; omega) 0 r.length (by omega) (by rw [swp_len]; simp))
  go_wp2_with fail
  refine HD.out.mono ?_
  rintro e w3 ⟨b, m, rfl, hQ, hA3⟩
  have hml : m.length = r.length + 1 := by rw [hQ.1.length_eq, swp_len]; simp
  have hlast : m[r.length]? = some x := by
    rw [hQ.2.1 r.length (Nat.le_refl _)]
    unfold swpL
    rw [List.getElem?_set]
    simp
  obtain ⟨m0, hm0⟩ : ∃ m0, m = m0 ++ [x] := ⟨m.take r.length, by
    have h1 := List.take_append_drop r.length m
    have h2 : m.drop r.length = [x] := by
      have h3 : (m.drop r.length).length = 1 := by rw [List.length_drop]; omega
      obtain ⟨z, hz⟩ := List.length_eq_one_iff.1 h3
      have h4 : (m.drop r.length)[0]? = some x := by rw [List.getElem?_drop]; simpa using hlast
      rw [hz] at h4 ⊢
      simpa using h4
    rw [h2] at h1
    exact h1.symm⟩
  subst hm0
  have HP := Lib.hid (show m0.Perm r from by
    have h1 : (m0 ++ [x]).Perm (x :: r) := hQ.1.trans (swp_perm rfl HY.out)
    have h2 : (x :: m0).Perm (x :: r) := (List.perm_append_singleton x m0).symm.trans h1
    exact (List.perm_cons x).1 h2)
  have hm1 : m0.length = r.length := by simpa using hml
  have HA3 := Lib.hid hA3
  have hpm := fun w => pop_240 (w := w) (a := ⟨Ba, 0, none⟩)
  have hm2 : m0.length ≤ 1000 := by omega
  clear hA3 hQ hml hlast hm1
  go_wp2_with fail
  refine (EPop_any HA3.out.1 hm2).mono ?_
  rintro e w4 ⟨ev', rfl, hA4⟩
  have HA4 := Lib.hid hA4
  clear hA4
  go_wp2_with fail
  go_ret
  have hs3 : W.heap.size ≤ w3.heap.size := (HA2.out.2.trans HA3.out.2).kp.size
  exact ⟨_, m0, rfl, HP.out, HA4.out.1, (HA2.out.2.trans HA3.out.2).trans HA4.out.2.1, fun k hk => (HA4.out.2.2 k hk).imp id (fun h => by omega)⟩
end
end Go.Proofs.YtfgdkeomjplnnaaDoor

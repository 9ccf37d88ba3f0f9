/- slices.DeleteFunc over the allocator's row. Conditions: sizes. -/
import Derived.Test.YtfgdkeomjplnnaaDoorAlG
namespace Go.Proofs.YtfgdkeomjplnnaaDoor
set_option linter.unusedVariables false
open Go.RowKit
attribute [local irreducible] Blk
section
variable {B0 : Nat} {W : World} {Ba Bh : Nat} {ev : Value} {es : List Hd} {fr : Nat} {hs : List Hm} {sl b2 b3 : Nat} {at' : Int}
def zs (k : Nat) : List Value := hdCells (List.replicate k hd0)
theorem zs_len (k : Nat) : (zs k).length = k * 2 := by unfold zs; rw [hdCells_len, List.length_replicate]
theorem set_take {α : Type} {m : List α} {p i : Nat} {x : α} (h : i ≤ p) : (m.set p x).take i = m.take i := by
  rw [List.take_set_of_le h]
/-- The row's end is cleared. -/
theorem RlW.cleared : ∀ (k p : Nat) (W : World) (es : List Hd), RlW B0 W Ba Bh ev es fr hs sl b2 b3 at' → ∀ g, ev.ownBlock = some g → p + k ≤ es.length → ∃ m, m.length = es.length ∧ m.take p = es.take p ∧ RlW B0 (W.setCells g (p * 2) (zs k)) Ba Bh ev m fr hs sl b2 b3 at' ∧ Below B0 W (W.setCells g (p * 2) (zs k))
  | 0, p, W, es, h, g, hg, hp => ⟨es, rfl, rfl, h, Below.refl _ _⟩
  | k + 1, p, W, es, h, g, hg, hp => by
    have h1 := h.set hg (k := p) (by omega) hd0
    have hg0 : B0 ≤ g := (h.al.row.lt g hg).1
    have hb1 := ((Below.refl B0 W).setCell (p := ⟨g, p * 2, none⟩) (by exact hg0) (.int .i64 (hd0.i : Int))).setCell (p := ⟨g, p * 2 + 1, none⟩) (by exact hg0) (.int .i64 hd0.en)
    obtain ⟨m, h2, h3, h4, h5⟩ := RlW.cleared k (p + 1) _ _ h1 g hg (by rw [List.length_set]; omega)
    have e1 : (W.setCells g (p * 2) (zs (k + 1))) = ((W.setCell ⟨g, p * 2, none⟩ (.int .i64 (hd0.i : Int))).setCell ⟨g, p * 2 + 1, none⟩ (.int .i64 hd0.en)).setCells g ((p + 1) * 2) (zs k) := by
      rw [show (p + 1) * 2 = p * 2 + 1 + 1 by omega]
      rfl
    rw [e1]
    refine ⟨m, by rw [h2, List.length_set], ?_, h4, hb1.trans h5⟩
    have h6 := congrArg (List.take p) h3
    rw [List.take_take, List.take_take, Nat.min_eq_left (by omega)] at h6
    rw [h6, set_take (Nat.le_refl _)]
theorem zc1 : (Builtin.zeroCells (Value.agg #[.int .i64 0, .int .i64 0]).cells 1).toList = zs 1 := by kernel_rfl
theorem zc2 : (Builtin.zeroCells (Value.agg #[.int .i64 0, .int .i64 0]).cells 2).toList = zs 2 := by kernel_rfl
theorem zc3 : (Builtin.zeroCells (Value.agg #[.int .i64 0, .int .i64 0]).cells 3).toList = zs 3 := by kernel_rfl
theorem zc4 : (Builtin.zeroCells (Value.agg #[.int .i64 0, .int .i64 0]).cells 4).toList = zs 4 := by kernel_rfl
theorem zc5 : (Builtin.zeroCells (Value.agg #[.int .i64 0, .int .i64 0]).cells 5).toList = zs 5 := by kernel_rfl
theorem zc6 : (Builtin.zeroCells (Value.agg #[.int .i64 0, .int .i64 0]).cells 6).toList = zs 6 := by kernel_rfl
theorem run_clear_held {w : World} {g p n c : Nat} (hn : 0 < n) (hn6 : n ≤ 6) (hc : ∀ j, j < n * 2 → (w.cell? ⟨g, p * 2 + j, none⟩).isSome = true) (hf : ∀ j, w.frozen? ⟨g, j, none⟩ = false) (ty : TypeId) :
    (Builtin.clear_ #[51] ty #[.slice (some ⟨g, p * 2, none⟩) n c]).run Tryd.prog w = .ok (.tuple #[]) (w.setCells g (p * 2) (zs n)) := by
  have hzc : (Builtin.zeroCells (Value.agg #[.int .i64 0, .int .i64 0]).cells n).toList = zs n := by
    match n, hn, hn6 with
    | 1, _, _ => exact zc1
    | 2, _, _ => exact zc2
    | 3, _, _ => exact zc3
    | 4, _, _ => exact zc4
    | 5, _, _ => exact zc5
    | 6, _, _ => exact zc6
  have hst := run_storeCells_cells (P := Tryd.prog) g (p * 2) (zs n) 0 w (by rw [zs_len]; simpa using hc) (fun j _ => hf _) (by
    intro v hv
    unfold zs hdCells at hv
    obtain ⟨x, hx, hv2⟩ := List.mem_flatMap.1 hv
    rw [List.eq_of_mem_replicate hx] at hv2
    simp [Hd.arr, hd0] at hv2
    rcases hv2 with rfl | rfl <;> rfl)
  simp only [Nat.add_zero] at hst
  obtain ⟨m, rfl⟩ : ∃ m, n = m + 1 := ⟨n - 1, by omega⟩
  have hz : ∀ w, (zeroValue 58).run Tryd.prog w = .ok (.agg #[.int .i64 0, .int .i64 0]) w := fun w => Tryd.zeroValue58 w
  simp only [Builtin.clear_]
  simp [run_underlying Tryd.underlying51, hz, hzc, hst]
def reslice (v : Value) (k : Nat) : Value := match v with
  | .slice a _ c => .slice a k c
  | v => v
def DelP (B0 : Nat) (W : World) (Ba Bh : Nat) (ev : Value) (es : List Hd) (fr : Nat) (hs : List Hm) (sl b2 b3 : Nat) (at' : Int) (e : Ending) (w' : World) : Prop :=
  e = .returned (reslice ev (keptL at' es).length) ∧ Below B0 W w' ∧ ∃ m, m.length = es.length ∧ m.take (keptL at' es).length = keptL at' es ∧ RlW B0 w' Ba Bh ev m (relL at' hs fr es) hs sl b2 b3 at'
/-- How far the deleting is, at place j. -/
structure DelI (at' : Int) (es m : List Hd) (i j : Nat) : Prop where
  len : m.length = es.length
  ie : i = (keptL at' (es.take j)).length
  kept : m.take i = keptL at' (es.take j)
  rest : m.drop j = es.drop j
  lt : i < j
theorem DelI.skip {es m : List Hd} {i j : Nat} {x : Hd} (h : DelI at' es m i j) (hx : es[j]? = some x) (hg : gone at' x = true) : DelI at' es m i (j + 1) := by
  have hk : keptL at' (es.take (j + 1)) = keptL at' (es.take j) := by rw [kept_snoc hx, hg]; simp
  refine ⟨h.len, by rw [hk]; exact h.ie, by rw [hk]; exact h.kept, ?_, by have := h.lt; omega⟩
  have := congrArg (List.drop 1) h.rest
  rw [List.drop_drop, List.drop_drop] at this
  exact this
theorem DelI.keep {es m : List Hd} {i j : Nat} {x : Hd} (h : DelI at' es m i j) (hx : es[j]? = some x) (hg : gone at' x = false) : DelI at' es (m.set i x) (i + 1) (j + 1) := by
  have hj : j < es.length := (List.getElem?_eq_some_iff.1 hx).1
  have hil : i < m.length := by have := h.lt; have := h.len; omega
  have hk : keptL at' (es.take (j + 1)) = keptL at' (es.take j) ++ [x] := by rw [kept_snoc hx, hg]; simp
  refine ⟨by rw [List.length_set]; exact h.len, by rw [hk, List.length_append, ← h.ie]; rfl, ?_, ?_, by have := h.lt; omega⟩
  · have h1 : (m.set i x)[i]? = some x := by rw [List.getElem?_set]; simp [hil]
    rw [take_snoc' h1, set_take (Nat.le_refl _), h.kept, hk]
  · rw [List.drop_set_of_lt (by have := h.lt; omega)]
    have := congrArg (List.drop 1) h.rest
    rw [List.drop_drop, List.drop_drop] at this
    exact this
theorem DelI.at {es m : List Hd} {i j : Nat} {x : Hd} (h : DelI at' es m i j) (hx : es[j]? = some x) : m[j]? = some x := by
  have h1 : (m.drop j)[0]? = (es.drop j)[0]? := by rw [h.rest]
  rw [List.getElem?_drop, List.getElem?_drop] at h1
  simpa [hx] using h1
theorem kept_none_take {at' : Int} {es : List Hd} {k : Nat} {x : Hd} (hx : es[k]? = some x) (hg : gone at' x = true) (h : ∀ y ∈ es.take k, gone at' y = false) : DelI at' es es k (k + 1) := by
  have hk : k < es.length := (List.getElem?_eq_some_iff.1 hx).1
  have h1 : keptL at' (es.take (k + 1)) = es.take k := by
    rw [kept_snoc hx, hg, (rel_none (hs := []) (es.take k) 0 h).2]
    simp
  exact ⟨rfl, by rw [h1, List.length_take, Nat.min_eq_left (by omega)], h1.symm, rfl, by omega⟩
theorem RlW.drewN (h : RlW B0 W Ba Bh ev es fr hs sl b2 b3 at') (n : Nat) : RlW B0 (W.drewN n) Ba Bh ev es fr hs sl b2 b3 at' := ⟨h.al.drewN n, h.p2.drewN n, h.p3.drewN n⟩
set_option maxRecDepth 100000 in
set_option maxHeartbeats 3200000 in
theorem del_any (h : RlW B0 W Ba Bh ev es fr hs sl b2 b3 at') (hx : ∀ x ∈ es, HasReg hs x) (hf : fr < 64) (hl : hs.length ≤ 1000000) (hn : es.length ≤ 6) :
    Calls Tryd.prog 37 #[ev, .func (.func 38) #[] #[.pointer (some ⟨b3, 0, none⟩), .pointer (some ⟨b2, 0, none⟩)]] W (DelP B0 W Ba Bh ev es fr hs sl b2 b3 at') := by
  have HI := Lib.hid (idx_any h hx hf hl hn)
  have HX := Lib.hid hx
  obtain ⟨a0, cp0, rfl⟩ := h.al.ev_slice
  clear h hx
  go_enter Tryd.func37, Tryd.ntmps37
  go_wp2_with fail
  refine HI.out.mono ?_
  rintro e w1 ⟨⟨rfl, hall, h1⟩ | ⟨k, x, hx, rfl, hg, hall, h1⟩, hb1⟩
  · obtain ⟨r1, r2⟩ := rel_none (hs := hs) es fr hall
    have HE := Lib.hid (show DelP B0 W Ba Bh (.slice a0 es.length cp0) es fr hs sl b2 b3 at' (.returned (.slice a0 es.length cp0)) w1 from ⟨by rw [r2]; rfl, hb1, es, rfl, by rw [r2, List.take_length], by rw [r1]; exact h1⟩)
    clear hall h1 hb1 r1 r2
    go_wp2_with fail
    go_ret
    exact HE.out
  · have hk : k < es.length := (List.getElem?_eq_some_iff.1 hx).1
    have hne : ((k : Int) == -1) = false := beq_eq_false_iff_ne.2 (by omega)
    have HD := Lib.hid (kept_none_take hx hg hall)
    have HR1 := Lib.hid (show relL at' hs fr (es.take (k + 1)) = relF at' hs fr x by rw [rel_snoc hx, (rel_none (hs := hs) (es.take k) fr hall).1])
    have H1 := Lib.hid h1
    have HB1 := Lib.hid hb1
    have k0 : (0 : Int) ≤ (k : Int) := by omega
    clear hx hg hall h1 hb1
    go_wp2_with fail
    go_loopw [5, 6] (fun iv jv wr => ∃ (i j : Nat) (m : List Hd), iv = .int .i64 (i : Int) ∧ jv = .int .i64 (j : Int) ∧ j ≤ es.length ∧ Hid (DelI at' es m i j) ∧ Hid (RlW B0 wr Ba Bh (.slice a0 es.length cp0) m (relL at' hs fr (es.take j)) hs sl b2 b3 at' ∧ Below B0 W wr)) (fun _ jv _ => es.length - (intOf jv).toNat)
    case atStart => exact ⟨k, k + 1, es, rfl, congrArg (Value.int .i64) (by omega), by omega, HD.out, Lib.hid ⟨by rw [HR1.out]; exact H1.out, HB1.out⟩⟩
    case round =>
      obtain ⟨i, j, m, rfl, rfl, hj, HJ, HA⟩ := hrel
      have hij := HJ.out.lt
      have hml : m.length = es.length := HJ.out.len
      have HML := Lib.hid hml
      obtain ⟨g, cap, hev, hcap, hg0, hg1, hga, hgh, hcs, hfz⟩ := HA.out.1.al.form (by intro e; rw [e] at hml; simp at hml; omega)
      have hml2 : es.length ≤ cap := by omega
      obtain ⟨rfl, rfl⟩ : a0 = some ⟨g, 0, none⟩ ∧ cp0 = cap := by
        rw [hml] at hev
        simpa using hev
      have j0 : (0 : Int) ≤ (j : Int) := by omega
      have i0 : (0 : Int) ≤ (i : Int) := by omega
      by_cases hlt : j < es.length
      · obtain ⟨x, hx⟩ : ∃ x, es[j]? = some x := ⟨es[j], List.getElem?_eq_getElem hlt⟩
        obtain ⟨x0, x1⟩ := hcs j x (HJ.out.at hx)
        obtain ⟨y, hy⟩ : ∃ y, m[i]? = some y := ⟨m[i], List.getElem?_eq_getElem (by omega)⟩
        obtain ⟨y0, y1⟩ := hcs i y hy
        have hrx := HX.out x (List.mem_of_getElem? hx)
        have hfl := relL_lt (at' := at') (es.take j) (fun y hy => HX.out y (List.mem_of_mem_take hy)) hf
        have HAl := Lib.hid (HA.out.1.alloc (.cells #[.int .i64 (x.i : Int), .int .i64 x.en] 58))
        have HR := Lib.hid (rel1_any HAl.out x hrx hfl hl)
        have HBa := Lib.hid (HA.out.2.alloc (by have := HA.out.1.al.b0; have := HA.out.1.al.blk.lt; omega) (.cells #[.int .i64 (x.i : Int), .int .i64 x.en] 58))
        have HBk := Lib.hid (Blk.new wr 58 #[.int .i64 (x.i : Int), .int .i64 x.en])
        have j1 : (j : Int) < (es.length : Int) := by omega
        have i1 : (i : Int) < (es.length : Int) := by omega
        have HXX := Lib.hid hx
        have HRS := Lib.hid (rel_snoc (at' := at') (hs := hs) (fr := fr) hx)
        have hlw : wr.heap.size < (wr.alloc (.cells #[.int .i64 (x.i : Int), .int .i64 x.en] 58)).heap.size := by simp
        clear hev hcs hfz hx hy hml hrx hfl
        unfold Rel1P at HR
        generalize relL at' hs fr (es.take j) = fj at *
        cases hgn : gone at' x with
        | true =>
          rw [hgn] at HR
          have HGN := Lib.hid hgn
          clear hgn y0 y1
          obtain ⟨xi, xe⟩ := x
          simp only at *
          go_wp2_with fail
          refine HR.out.mono ?_
          rintro e w2 ⟨rfl, h2, hb2, hk2⟩
          have H2 := Lib.hid h2
          have HB2 := Lib.hid hb2
          clear h2 hb2
          go_wp2_with fail
          refine ⟨⟨i, j + 1, m, rfl, rfl, by omega, Lib.hid (HJ.out.skip HXX.out HGN.out), Lib.hid ⟨by rw [HRS.out]; exact H2.out, HBa.out.trans HB2.out⟩⟩, by simp [intOf]; omega⟩
        | false =>
          rw [hgn] at HR
          have HGN := Lib.hid hgn
          clear hgn
          obtain ⟨xi, xe⟩ := x
          simp only at *
          go_wp2_with fail
          refine HR.out.mono ?_
          rintro e w2 ⟨rfl, h2, hb2, hk2⟩
          have H2 := Lib.hid h2
          have HB2 := Lib.hid hb2
          have hX2 := hk2.blk HBk.out (by have := HA.out.1.al.blk.lt; omega)
          have xl := hX2.lt
          have z0 := (hX2.cell 0).trans (show _ = some (Value.int .i64 (xi : Int)) from rfl)
          have z1 := (hX2.cell 1).trans (show _ = some (Value.int .i64 xe) from rfl)
          have y0' := (hk2.cell (a := ⟨g, i * 2, none⟩) (by simp; omega) (by exact hga)).trans (Lib.cell?_alloc_some _ y0)
          have y1' := (hk2.cell (a := ⟨g, i * 2 + 1, none⟩) (by simp; omega) (by exact hga)).trans (Lib.cell?_alloc_some _ y1)
          have hfz2 : ∀ j, w2.frozen? ⟨g, j, none⟩ = false := by
            obtain ⟨g', c', he, _, _, _, _, _, _, hz⟩ := h2.al.form (by intro e; have := HML.out; rw [e] at this; simp at this; omega)
            obtain ⟨rfl, _⟩ : g = g' ∧ cp0 = c' := by rw [HML.out] at he; simpa using he
            exact hz
          have HS := Lib.hid (h2.set (g := g) rfl (k := i) (by have := HML.out; omega) ⟨xi, xe⟩)
          have HSB := Lib.hid (((HBa.out.trans hb2).setCell (p := ⟨g, i * 2, none⟩) (by exact hg0) (.int .i64 (xi : Int))).setCell (p := ⟨g, i * 2 + 1, none⟩) (by exact hg0) (.int .i64 xe))
          clear h2 hb2 hk2 hX2 x0 x1 y0 y1
          go_wp2_with fail
          refine ⟨⟨i + 1, j + 1, m.set i ⟨xi, xe⟩, rfl, rfl, by omega, Lib.hid (HJ.out.keep HXX.out HGN.out), Lib.hid ⟨by rw [HRS.out]; exact HS.out, HSB.out⟩⟩, by simp [intOf]; omega⟩
      · have hje : j = es.length := by omega
        subst hje
        have hi6 : es.length - i ≤ 6 := by omega
        have hi1 : 0 < es.length - i := by omega
        have hsome : ∀ t, t < es.length * 2 → (wr.cell? ⟨g, t, none⟩).isSome = true := fun t ht => by
          obtain ⟨y, hy⟩ : ∃ y, m[t / 2]? = some y := ⟨m[t / 2], List.getElem?_eq_getElem (by omega)⟩
          obtain ⟨c0, c1⟩ := hcs (t / 2) y hy
          rcases Nat.mod_two_eq_zero_or_one t with h | h
          · rw [show t = t / 2 * 2 by omega, c0]; rfl
          · rw [show t = t / 2 * 2 + 1 by omega, c1]; rfl
        have hcl := run_clear_held (w := wr) (g := g) (p := i) (n := es.length - i) (c := cp0 - i) hi1 hi6 (fun t ht => hsome _ (by omega)) hfz
        obtain ⟨m2, hm2, ht2, hA2, hB2⟩ := RlW.cleared (es.length - i) i wr m HA.out.1 g rfl (by omega)
        have hkl : keptL at' (es.take es.length) = keptL at' es := by rw [List.take_length]
        have hie : i = (keptL at' es).length := by rw [← hkl]; exact HJ.out.ie
        have HE := Lib.hid (show DelP B0 W Ba Bh (.slice (some ⟨g, 0, none⟩) es.length cp0) es fr hs sl b2 b3 at' (.returned (.slice (some ⟨g, 0, none⟩) i cp0)) (wr.setCells g (i * 2) (zs (es.length - i))) from by
          refine ⟨by rw [← hie]; rfl, HA.out.2.trans hB2, m2, by omega, ?_, ?_⟩
          · rw [← hie, ht2, HJ.out.kept, hkl]
          · rw [List.take_length] at hA2
            exact hA2)
        have i1 : (i : Int) < (es.length : Int) := by omega
        have i2 : (i : Int) ≤ (es.length : Int) := by omega
        have i3 : (es.length : Int) ≤ (cp0 : Int) := by omega
        have i4 : (i : Int) ≤ (cp0 : Int) := by omega
        have i5 : ¬ cp0 = i := by omega
        clear hcs hfz hsome hA2 hB2 hkl hie hev ht2
        generalize wr.setCells g (i * 2) (zs (es.length - i)) = W9 at *
        go_wp2_with fail
        go_ret
        exact HE.out
end
end Go.Proofs.YtfgdkeomjplnnaaDoor

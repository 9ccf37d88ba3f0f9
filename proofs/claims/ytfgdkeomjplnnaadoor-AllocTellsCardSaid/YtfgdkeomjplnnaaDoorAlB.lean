/- What an allocator's memory holds; the methods of its row. Conditions: none but sizes. -/
import Derived.Test.YtfgdkeomjplnnaaDoorAlA
import Derived.Deep.DeepCutAuto
namespace Go.Proofs.YtfgdkeomjplnnaaDoor
set_option linter.unusedVariables false
open Go.RowKit
attribute [local irreducible] Blk
structure Hm where
  isSlot : Bool
  n : Int
  deriving DecidableEq
def Hm.arr (x : Hm) : Array Value := #[.bool x.isSlot, .int .i64 x.n]
def hdCells (l : List Hd) : List Value := l.flatMap (fun x => x.arr.toList)
def hmCells (l : List Hm) : List Value := l.flatMap (fun x => x.arr.toList)
theorem hdCells_len : ∀ l : List Hd, (hdCells l).length = l.length * 2
  | [] => rfl
  | x :: r => by
    show (x.arr.toList ++ hdCells r).length = _
    rw [List.length_append, hdCells_len r, List.length_cons]
    show 2 + _ = _
    omega
theorem hmCells_len : ∀ l : List Hm, (hmCells l).length = l.length * 2
  | [] => rfl
  | x :: r => by
    show (x.arr.toList ++ hmCells r).length = _
    rw [List.length_append, hmCells_len r, List.length_cons]
    show 2 + _ = _
    omega
theorem hdCells_get : ∀ (l : List Hd) (k : Nat) (x : Hd), l[k]? = some x → (hdCells l)[k * 2]? = some (.int .i64 (x.i : Int)) ∧ (hdCells l)[k * 2 + 1]? = some (.int .i64 x.en)
  | [], k, x, h => by simp at h
  | y :: r, 0, x, h => by
    have : y = x := by simpa using h
    subst this
    exact ⟨rfl, rfl⟩
  | y :: r, k + 1, x, h => by
    have := hdCells_get r k x (by simpa using h)
    rw [show (k + 1) * 2 = k * 2 + 1 + 1 by omega]
    exact this
theorem hmCells_get : ∀ (l : List Hm) (k : Nat) (x : Hm), l[k]? = some x → (hmCells l)[k * 2]? = some (.bool x.isSlot) ∧ (hmCells l)[k * 2 + 1]? = some (.int .i64 x.n)
  | [], k, x, h => by simp at h
  | y :: r, 0, x, h => by
    have : y = x := by simpa using h
    subst this
    exact ⟨rfl, rfl⟩
  | y :: r, k + 1, x, h => by
    have := hmCells_get r k x (by simpa using h)
    rw [show (k + 1) * 2 = k * 2 + 1 + 1 by omega]
    exact this
theorem hdCells_set : ∀ (l : List Hd) (k : Nat) (x : Hd), hdCells (l.set k x) = ((hdCells l).set (k * 2) (.int .i64 (x.i : Int))).set (k * 2 + 1) (.int .i64 x.en)
  | [], k, x => rfl
  | y :: r, 0, x => rfl
  | y :: r, k + 1, x => by
    have := hdCells_set r k x
    rw [show (k + 1) * 2 = k * 2 + 1 + 1 by omega]
    show y.arr.toList ++ hdCells (r.set k x) = _
    rw [this]
    rfl
theorem hmCells_set : ∀ (l : List Hm) (k : Nat) (x : Hm), hmCells (l.set k x) = ((hmCells l).set (k * 2) (.bool x.isSlot)).set (k * 2 + 1) (.int .i64 x.n)
  | [], k, x => rfl
  | y :: r, 0, x => rfl
  | y :: r, k + 1, x => by
    have := hmCells_set r k x
    rw [show (k + 1) * 2 = k * 2 + 1 + 1 by omega]
    show y.arr.toList ++ hmCells (r.set k x) = _
    rw [this]
    rfl
/-- A cell of an owned row is written. -/
theorem ownsRow_set {w : World} {base : Nat} {e : TypeId} {size n : Nat} {v : Value} {xs : List Value} (h : w.ownsRow base e size v n xs) {g : Nat} (hg : v.ownBlock = some g) {j : Nat} (hj : j < n * size) (u : Value) : (w.setCell ⟨g, j, none⟩ u).ownsRow base e size v n (xs.set j u) := by
  refine ⟨by rw [List.length_set]; exact h.1, ?_⟩
  rcases h.2 with ⟨rfl, _⟩ | ⟨g', cap, cur, rfl, hb, hh, h1, h2, h3, h4⟩
  · cases hg
  · have : g' = g := by simpa [Value.ownBlock] using hg
    subst this
    refine .inr ⟨g', cap, cur.setIfInBounds j u, rfl, hb, heap_setCell_same w g' j cur e u hh, h1, h2, by simpa using h3, ?_⟩
    rw [← h4, Array.toList_setIfInBounds, List.take_set]
theorem ownsRow_far {w : World} {base : Nat} {e : TypeId} {size n : Nat} {v : Value} {xs : List Value} (h : w.ownsRow base e size v n xs) {a : Addr} (hg : v.ownBlock ≠ some a.block) (u : Value) : (w.setCell a u).ownsRow base e size v n xs := setRow_own h a u hg
/-- What an allocator's memory holds. -/
structure AlW (B0 : Nat) (W : World) (Ba Bh : Nat) (ev : Value) (es : List Hd) (fr : Nat) (hs : List Hm) (sl : Nat) : Prop where
  blk : Blk W Ba 53 #[ev, .int .u64 (fr : Int), .slice (some ⟨Bh, 0, none⟩) hs.length hs.length, .int .i64 (sl : Int)]
  hom : Blk W Bh 30 (hmCells hs).toArray
  row : W.ownsRow B0 58 2 ev es.length (hdCells es)
  b0 : B0 ≤ Ba
  b1 : B0 ≤ Bh
section
variable {B0 : Nat} {W : World} {Ba Bh : Nat} {ev : Value} {es : List Hd} {fr : Nat} {hs : List Hm} {sl : Nat}
theorem AlW.na (h : AlW B0 W Ba Bh ev es fr hs sl) : ev.ownBlock ≠ some Ba := h.blk.ne_own h.row (by decide)
theorem AlW.nh (h : AlW B0 W Ba Bh ev es fr hs sl) : ev.ownBlock ≠ some Bh := h.hom.ne_own h.row (by decide)
theorem AlW.ah (h : AlW B0 W Ba Bh ev es fr hs sl) : Ba ≠ Bh := h.blk.ne_ty h.hom (by decide)
theorem AlW.form (h : AlW B0 W Ba Bh ev es fr hs sl) (hne : es ≠ []) : ∃ g cap, ev = .slice (some ⟨g, 0, none⟩) es.length cap ∧ es.length ≤ cap ∧ B0 ≤ g ∧ g < W.heap.size ∧ g ≠ Ba ∧ g ≠ Bh ∧ (∀ k x, es[k]? = some x → W.cell? ⟨g, k * 2, none⟩ = some (.int .i64 (x.i : Int)) ∧ W.cell? ⟨g, k * 2 + 1, none⟩ = some (.int .i64 x.en)) ∧ ∀ j, W.frozen? ⟨g, j, none⟩ = false := by
  have hna := h.na
  have hnh := h.nh
  have hlt := h.row.lt
  have hc := fun g (hg : ev.ownBlock = some g) => h.row.cells hg
  rcases h.row.2 with ⟨_, h0⟩ | ⟨g, cap, cur, rfl, hb, hh, h1, h2, h3, h4⟩
  · exact absurd (List.length_eq_zero_iff.1 h0) hne
  · refine ⟨g, cap, rfl, h1, hb, (hlt g rfl).2, fun e => hna (by rw [← e]; rfl), fun e => hnh (by rw [← e]; rfl), fun k x hx => ?_, fun j => frozen_of_row W g j cur _ hh⟩
    obtain ⟨q1, q2⟩ := hdCells_get es k x hx
    have c0 := hc g rfl (k * 2) _ q1
    have c1 := hc g rfl (k * 2 + 1) _ q2
    rw [addr_add] at c0 c1
    rw [Nat.zero_add] at c0 c1
    exact ⟨c0, c1⟩
theorem AlW.drewN (h : AlW B0 W Ba Bh ev es fr hs sl) (m : Nat) : AlW B0 (W.drewN m) Ba Bh ev es fr hs sl := ⟨h.blk.drewN m, h.hom.drewN m, h.row, h.b0, h.b1⟩
theorem AlW.drew (h : AlW B0 W Ba Bh ev es fr hs sl) : AlW B0 W.drew Ba Bh ev es fr hs sl := h.drewN 1
theorem AlW.below {W' : World} (h : AlW B0 W Ba Bh ev es fr hs sl) (hb : Below W.heap.size W W') : AlW B0 W' Ba Bh ev es fr hs sl :=
  ⟨h.blk.below hb h.blk.lt, h.hom.below hb h.hom.lt, Keep.row (Keep.of_below hb) h.row (fun k hk => by have := (h.row.lt k hk).2; omega), h.b0, h.b1⟩
theorem AlW.alloc (h : AlW B0 W Ba Bh ev es fr hs sl) (o : Obj) : AlW B0 (W.alloc o) Ba Bh ev es fr hs sl := h.below ((Below.refl _ _).alloc (Nat.le_refl _) o)
/-- An element of the row is written. -/
theorem AlW.set (h : AlW B0 W Ba Bh ev es fr hs sl) {g : Nat} (hg : ev.ownBlock = some g) {k : Nat} (hk : k < es.length) (x : Hd) : AlW B0 ((W.setCell ⟨g, k * 2, none⟩ (.int .i64 (x.i : Int))).setCell ⟨g, k * 2 + 1, none⟩ (.int .i64 x.en)) Ba Bh ev (es.set k x) fr hs sl := by
  have hga : g ≠ Ba := fun e => h.na (by rw [hg, e])
  have hgh : g ≠ Bh := fun e => h.nh (by rw [hg, e])
  refine ⟨(h.blk.far (by exact hga.symm) _).far (by exact hga.symm) _, (h.hom.far (by exact hgh.symm) _).far (by exact hgh.symm) _, ?_, h.b0, h.b1⟩
  rw [List.length_set, hdCells_set]
  exact ownsRow_set (ownsRow_set h.row hg (by omega) _) hg (by omega) _
/-- A home is written. -/
theorem AlW.setH (h : AlW B0 W Ba Bh ev es fr hs sl) {k : Nat} (hk : k < hs.length) (x : Hm) : AlW B0 ((W.setCell ⟨Bh, k * 2, none⟩ (.bool x.isSlot)).setCell ⟨Bh, k * 2 + 1, none⟩ (.int .i64 x.n)) Ba Bh ev es fr (hs.set k x) sl := by
  refine ⟨?_, ?_, ownsRow_far (ownsRow_far h.row (by exact h.nh) _) (by exact h.nh) _, h.b0, h.b1⟩
  · rw [List.length_set]
    exact (h.blk.far (by exact h.ah) _).far (by exact h.ah) _
  · rw [hmCells_set]
    have := (h.hom.set (k * 2) (.bool x.isSlot)).set (k * 2 + 1) (.int .i64 x.n)
    simpa using this
theorem AlW.setF (h : AlW B0 W Ba Bh ev es fr hs sl) (f : Nat) : AlW B0 (W.setCell ⟨Ba, 1, none⟩ (.int .u64 (f : Int))) Ba Bh ev es f hs sl :=
  ⟨h.blk.set 1 _, h.hom.far (by exact h.ah.symm) _, ownsRow_far h.row (by exact h.na) _, h.b0, h.b1⟩
theorem AlW.setS (h : AlW B0 W Ba Bh ev es fr hs sl) (s : Nat) : AlW B0 (W.setCell ⟨Ba, 3, none⟩ (.int .i64 (s : Int))) Ba Bh ev es fr hs s :=
  ⟨h.blk.set 3 _, h.hom.far (by exact h.ah.symm) _, ownsRow_far h.row (by exact h.na) _, h.b0, h.b1⟩
end
/-- All that lay below is unturned, and so are all blocks but the allocator's own. -/
structure Frm (B0 : Nat) (W : World) (Ba Bh : Nat) (ev : Value) (w' : World) : Prop where
  bel : Below B0 W w'
  kp : Keep W w' (fun k => k = Ba ∨ k = Bh ∨ ev.ownBlock = some k)
theorem Frm.refl (B0 : Nat) (W : World) (Ba Bh : Nat) (ev : Value) : Frm B0 W Ba Bh ev W := ⟨Below.refl _ _, Keep.refl _ _⟩
theorem Frm.trans {B0 : Nat} {W w1 w2 : World} {Ba Bh : Nat} {ev : Value} (h : Frm B0 W Ba Bh ev w1) (h' : Frm B0 w1 Ba Bh ev w2) : Frm B0 W Ba Bh ev w2 := ⟨h.bel.trans h'.bel, h.kp.trans h'.kp (fun _ _ h => h)⟩
theorem Frm.transX {B0 : Nat} {W w1 w2 : World} {Ba Bh : Nat} {ev ev1 : Value} (h : Frm B0 W Ba Bh ev w1) (hf : Fresh W ev ev1) (h' : Frm B0 w1 Ba Bh ev1 w2) : Frm B0 W Ba Bh ev w2 :=
  ⟨h.bel.trans h'.bel, h.kp.trans h'.kp (fun k hk hS => by
    rcases hS with h | h | h
    · exact .inl h
    · exact .inr (.inl h)
    · rcases hf k h with h2 | h2
      · exact .inr (.inr h2)
      · omega)⟩
theorem Frm.of_below {B0 : Nat} {W w' : World} {Ba Bh : Nat} {ev : Value} (hB : B0 ≤ W.heap.size) (h : Below W.heap.size W w') : Frm B0 W Ba Bh ev w' := ⟨h.mono hB, (Keep.of_below h).mono (fun k hk h => by omega)⟩
/-- The allocator's row is now this one, and all else is unturned. -/
def AlP (B0 : Nat) (W : World) (Ba Bh : Nat) (ev : Value) (es : List Hd) (fr : Nat) (hs : List Hm) (sl : Nat) (w' : World) : Prop := AlW B0 w' Ba Bh ev es fr hs sl ∧ Frm B0 W Ba Bh ev w'
def swpL (es : List Hd) (p q : Nat) (x y : Hd) : List Hd := (es.set p y).set q x
set_option maxRecDepth 100000 in
theorem Len_any (w : World) (a : Option Addr) (n c : Nat) : Calls Tryd.prog 102 #[.slice a n c] w fun e w' => e = .returned (.int .i64 (n : Int)) ∧ w = w' := by
  go_enter Tryd.func102, Tryd.ntmps102
  go_wp2_with fail
  go_ret
  exact ⟨rfl, rfl⟩
set_option maxRecDepth 100000 in
set_option maxHeartbeats 1600000 in
theorem Swap_any {B0 : Nat} {W : World} {Ba Bh : Nat} {ev : Value} {es : List Hd} {fr : Nat} {hs : List Hm} {sl : Nat} (h : AlW B0 W Ba Bh ev es fr hs sl) (p q : Nat) (x y : Hd) (hx : es[p]? = some x) (hy : es[q]? = some y) (hpq : p ≠ q) (hn : es.length ≤ 1000000) :
    Calls Tryd.prog 105 #[ev, .int .i64 (p : Int), .int .i64 (q : Int)] W fun e w' => e = .returned (.tuple #[]) ∧ AlP B0 W Ba Bh ev (swpL es p q x y) fr hs sl w' := by
  have hp : p < es.length := (List.getElem?_eq_some_iff.1 hx).1
  have hq : q < es.length := (List.getElem?_eq_some_iff.1 hy).1
  obtain ⟨g, cap, hev, hcap, hg0, hg1, hga, hgh, hcs, hfz⟩ := h.form (by intro e; rw [e] at hp; simp at hp)
  obtain ⟨x0, x1⟩ := hcs p x hx
  obtain ⟨y0, y1⟩ := hcs q y hy
  have H := Lib.hid h
  have HEV := Lib.hid hev
  have hB := Lib.hid (((((Below.refl B0 W).setCell (p := ⟨g, p * 2, none⟩) (by exact hg0) (.int .i64 (y.i : Int))).setCell (p := ⟨g, p * 2 + 1, none⟩) (by exact hg0) (.int .i64 y.en)).setCell (p := ⟨g, q * 2, none⟩) (by exact hg0) (.int .i64 (x.i : Int))).setCell (p := ⟨g, q * 2 + 1, none⟩) (by exact hg0) (.int .i64 x.en))
  have hA := Lib.hid ((h.set (g := g) (by rw [hev]; rfl) hp y).set (g := g) (by rw [hev]; rfl) (k := q) (by rw [List.length_set]; exact hq) x)
  clear hcs h hev
  have e1 : ¬ p * 2 = q * 2 := by omega
  have e2 : ¬ p * 2 = q * 2 + 1 := by omega
  have e3 : ¬ p * 2 + 1 = q * 2 := by omega
  have e4 : ¬ q * 2 = p * 2 := by omega
  have e5 : ¬ q * 2 = p * 2 + 1 := by omega
  have e6 : ¬ q * 2 + 1 = p * 2 := by omega
  have p0 : (0 : Int) ≤ (p : Int) := by omega
  have p1 : (p : Int) < (es.length : Int) := by omega
  have q0 : (0 : Int) ≤ (q : Int) := by omega
  have q1 : (q : Int) < (es.length : Int) := by omega
  rw [HEV.out]
  obtain ⟨xi, xe⟩ := x
  obtain ⟨yi, ye⟩ := y
  simp only at x0 x1 y0 y1
  go_enter Tryd.func105, Tryd.ntmps105
  go_wp2_with fail
  go_big_region
  go_wp2_with fail
  go_end0
  have hK : Keep W ((((W.setCell ⟨g, p * 2, none⟩ (.int .i64 (yi : Int))).setCell ⟨g, p * 2 + 1, none⟩ (.int .i64 ye)).setCell ⟨g, q * 2, none⟩ (.int .i64 (xi : Int))).setCell ⟨g, q * 2 + 1, none⟩ (.int .i64 xe)).drew (fun k => k = Ba ∨ k = Bh ∨ ev.ownBlock = some k) :=
    (((((Keep.refl W _).setCell _ (fun _ => .inr (.inr (by rw [HEV.out]; rfl))) _).setCell _ (fun _ => .inr (.inr (by rw [HEV.out]; rfl))) _).setCell _ (fun _ => .inr (.inr (by rw [HEV.out]; rfl))) _).setCell _ (fun _ => .inr (.inr (by rw [HEV.out]; rfl))) _).drew
  refine ⟨rfl, ?_⟩
  rw [← HEV.out]
  exact ⟨hA.out.drew, hB.out.drew, hK⟩
/-- Less, of the allocator's row. -/
theorem less_al {B0 : Nat} {W : World} {Ba Bh : Nat} {ev : Value} {es : List Hd} {fr : Nat} {hs : List Hm} {sl : Nat} (h : AlW B0 W Ba Bh ev es fr hs sl) (hn : es.length ≤ 1000000) (p q : Nat) (x y : Hd) (hx : es[p]? = some x) (hy : es[q]? = some y) (pi qi : Int) (hp : pi = (p : Int)) (hq : qi = (q : Int)) :
    Calls Tryd.prog 40 #[ev, .int .i64 pi, .int .i64 qi] W fun e w' => e = .returned (.bool (lo x y)) ∧ AlP B0 W Ba Bh ev es fr hs sl w' := by
  have hpl : p < es.length := (List.getElem?_eq_some_iff.1 hx).1
  have hql : q < es.length := (List.getElem?_eq_some_iff.1 hy).1
  obtain ⟨g, cap, rfl, hcap, hg0, hg1, hga, hgh, hcs, hfz⟩ := h.form (by intro e; rw [e] at hpl; simp at hpl)
  obtain ⟨x0, x1⟩ := hcs p x hx
  obtain ⟨y0, y1⟩ := hcs q y hy
  subst hp hq
  refine (Less_any W g es.length cap p q x y hpl hql hn x0 x1 y0 y1).mono ?_
  rintro e w' ⟨he, hb⟩
  exact ⟨he, h.below hb, Frm.of_below (by have := h.b0; have := h.blk.lt; omega) hb⟩
theorem swap_al {B0 : Nat} {W : World} {Ba Bh : Nat} {ev : Value} {es : List Hd} {fr : Nat} {hs : List Hm} {sl : Nat} (h : AlW B0 W Ba Bh ev es fr hs sl) (hn : es.length ≤ 1000000) (p q : Nat) (x y : Hd) (hx : es[p]? = some x) (hy : es[q]? = some y) (hpq : p ≠ q) (pi qi : Int) (hp : pi = (p : Int)) (hq : qi = (q : Int)) :
    Calls Tryd.prog 105 #[ev, .int .i64 pi, .int .i64 qi] W fun e w' => e = .returned (.tuple #[]) ∧ AlP B0 W Ba Bh ev (swpL es p q x y) fr hs sl w' := by
  subst hp hq
  exact Swap_any h p q x y hx hy hpq hn
theorem AlW.facts {B0 : Nat} {W : World} {Ba Bh : Nat} {ev : Value} {es : List Hd} {fr : Nat} {hs : List Hm} {sl : Nat} (h : AlW B0 W Ba Bh ev es fr hs sl) : W.cell? ⟨Ba, 0, none⟩ = some ev ∧ W.cell? ⟨Ba, 1, none⟩ = some (.int .u64 (fr : Int)) ∧ W.cell? ⟨Ba, 2, none⟩ = some (.slice (some ⟨Bh, 0, none⟩) hs.length hs.length) ∧ W.cell? ⟨Ba, 3, none⟩ = some (.int .i64 (sl : Int)) ∧ ∀ i, W.frozen? ⟨Ba, i, none⟩ = false :=
  ⟨(h.blk.cell 0).trans rfl, (h.blk.cell 1).trans rfl, (h.blk.cell 2).trans rfl, (h.blk.cell 3).trans rfl, h.blk.frozen⟩
/-! A heap, plainly. -/
def hd0 : Hd := ⟨0, 0⟩
def gd (l : List Hd) (k : Nat) : Hd := (l[k]?).getD hd0
theorem gd_of {l : List Hd} {k : Nat} {x : Hd} (h : l[k]? = some x) : gd l k = x := by unfold gd; rw [h]; rfl
def HeapFrom (l : List Hd) (k n : Nat) : Prop := ∀ p c, k ≤ p → (c = 2 * p + 1 ∨ c = 2 * p + 2) → c < n → lo (gd l c) (gd l p) = false
theorem lo_asym {x y : Hd} (h : lo x y = true) : lo y x = false := by
  unfold lo at *
  simp only [decide_eq_true_eq, decide_eq_false_iff_not] at *
  omega
theorem lo_trans {x y z : Hd} (h1 : lo x y = false) (h2 : lo y z = false) : lo x z = false := by
  unfold lo at *
  simp only [decide_eq_false_iff_not] at *
  omega
theorem lo_self (x : Hd) : lo x x = false := by
  unfold lo
  simp
theorem heap_root {l : List Hd} {n : Nat} (h : HeapFrom l 0 n) : ∀ k, k < n → lo (gd l k) (gd l 0) = false := by
  intro k
  induction k using Nat.strongRecOn with
  | _ k ih =>
    intro hk
    by_cases h0 : k = 0
    · rw [h0]; exact lo_self _
    · have h1 := h ((k - 1) / 2) k (Nat.zero_le _) (by omega) hk
      exact lo_trans h1 (ih ((k - 1) / 2) (by omega) (by omega))
theorem swp_gd {m : List Hd} {i j : Nat} {x y : Hd} (hi : m[i]? = some x) (hj : m[j]? = some y) (hij : i ≠ j) (k : Nat) : gd (swpL m i j x y) k = if k = j then x else if k = i then y else gd m k := by
  have hil : i < m.length := (List.getElem?_eq_some_iff.1 hi).1
  have hjl : j < m.length := (List.getElem?_eq_some_iff.1 hj).1
  unfold gd swpL
  rw [List.getElem?_set, List.getElem?_set, List.length_set]
  by_cases h1 : k = j
  · subst h1
    simp [hjl]
  · by_cases h2 : k = i
    · subst h2
      simp [h1, hil, Ne.symm h1]
    · simp [h1, h2, Ne.symm h1, Ne.symm h2]
theorem swp_len (m : List Hd) (i j : Nat) (x y : Hd) : (swpL m i j x y).length = m.length := by simp [swpL]
theorem swp_perm {m : List Hd} {i j : Nat} {x y : Hd} (hi : m[i]? = some x) (hj : m[j]? = some y) : (swpL m i j x y).Perm m := by
  obtain ⟨h1, rfl⟩ := List.getElem?_eq_some_iff.1 hi
  obtain ⟨h2, rfl⟩ := List.getElem?_eq_some_iff.1 hj
  exact List.set_set_perm h1 h2
theorem swp_far {m : List Hd} {i j : Nat} {x y : Hd} {k : Nat} (h1 : k ≠ i) (h2 : k ≠ j) : (swpL m i j x y)[k]? = m[k]? := by
  unfold swpL
  rw [List.getElem?_set_ne (Ne.symm h2), List.getElem?_set_ne (Ne.symm h1)]
/-- Sifting down: where the row stands at place i. -/
structure DownI (i0 n i : Nat) (es m : List Hd) : Prop where
  perm : m.Perm es
  far : ∀ j, n ≤ j → m[j]? = es[j]?
  heap : HeapFrom es (i0 + 1) n → (∀ p c, i0 ≤ p → p ≠ i → (c = 2 * p + 1 ∨ c = 2 * p + 2) → c < n → lo (gd m c) (gd m p) = false) ∧ (∀ p c, i0 ≤ p → (i = 2 * p + 1 ∨ i = 2 * p + 2) → (c = 2 * i + 1 ∨ c = 2 * i + 2) → c < n → lo (gd m c) (gd m p) = false)
  ge : i0 ≤ i
def DownQ (i0 n : Nat) (es es' : List Hd) : Prop := es'.Perm es ∧ (∀ j, n ≤ j → es'[j]? = es[j]?) ∧ (HeapFrom es (i0 + 1) n → HeapFrom es' i0 n)
theorem DownI.start (i0 n : Nat) (es : List Hd) : DownI i0 n i0 es es :=
  ⟨List.Perm.refl _, fun _ _ => rfl, fun h => ⟨fun p c h1 h2 h3 h4 => h p c (by omega) h3 h4, fun p c h1 h2 _ _ => by omega⟩, Nat.le_refl _⟩
theorem DownI.step {i0 n i : Nat} {es m : List Hd} (h : DownI i0 n i es m) {j : Nat} {x y : Hd} (hx : m[i]? = some x) (hy : m[j]? = some y) (hj : j = 2 * i + 1 ∨ j = 2 * i + 2) (hjn : j < n) (hlo : lo y x = true)
    (hb : ∀ c, (c = 2 * i + 1 ∨ c = 2 * i + 2) → c < n → lo (gd m c) y = false) : DownI i0 n j es (swpL m i j x y) := by
  have hij : i ≠ j := by omega
  have G := swp_gd hx hy hij
  have gx := gd_of hx
  have gy := gd_of hy
  refine ⟨(swp_perm hx hy).trans h.perm, fun k hk => (swp_far (by omega) (by omega)).trans (h.far k hk), fun hH => ?_, by have := h.ge; omega⟩
  obtain ⟨h1, h2⟩ := h.heap hH
  refine ⟨fun p c hp hpj hc hcn => ?_, fun p c hp hpj hc hcn => ?_⟩
  · rw [G c, G p, if_neg hpj]
    by_cases hpi : p = i
    · subst hpi
      rw [if_pos rfl]
      by_cases hcj : c = j
      · rw [if_pos hcj]
        exact lo_asym hlo
      · rw [if_neg hcj, if_neg (by omega)]
        exact hb c hc hcn
    · rw [if_neg hpi]
      rw [if_neg (show ¬ c = j by omega)]
      by_cases hci : c = i
      · subst hci
        rw [if_pos rfl, ← gy]
        exact h2 p j hp hc hj hjn
      · rw [if_neg hci]
        exact h1 p c hp hpi hc hcn
  · have hpi : p = i := by omega
    subst hpi
    rw [G c, G p, if_neg (by omega), if_neg (by omega), if_neg (by omega), if_pos rfl, ← gy]
    exact h1 j c (by have := h.ge; omega) (by omega) hc hcn
theorem DownI.stop {i0 n i : Nat} {es m : List Hd} (h : DownI i0 n i es m) (hb : ∀ c, (c = 2 * i + 1 ∨ c = 2 * i + 2) → c < n → lo (gd m c) (gd m i) = false) : DownQ i0 n es m :=
  ⟨h.perm, h.far, fun hH p c hp hc hcn => by
    by_cases hpi : p = i
    · subst hpi
      exact hb c hc hcn
    · exact (h.heap hH).1 p c hp hpi hc hcn⟩
end Go.Proofs.YtfgdkeomjplnnaaDoor

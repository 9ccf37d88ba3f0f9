/- The law's machine state: a block of 74 cells, and the address of an element. Conditions: numbers of 32 bits. -/
import Derived.Test.YthkiajbgdamjgaaDoorArC
namespace Go.Proofs.YthkiajbgdamjgaaDoor
open Go.RowKit
set_option linter.unusedVariables false

/-- A state at block g: 72 numbers (registers 0.., the frame 8.., words 48.., arguments 64..), what was put out, the trap. -/
structure StF (w : World) (g : Nat) (f : Nat → Int) (ov : Value) (tr : Int) : Prop where
  lt : g < w.heap.size
  num : ∀ k, k < 72 → w.cell? ⟨g, k, none⟩ = some (.int .i32 (f k))
  out : w.cell? ⟨g, 72, none⟩ = some ov
  trap : w.cell? ⟨g, 73, none⟩ = some (.int .i64 tr)
  fro : ∀ k, w.frozen? ⟨g, k, none⟩ = false
  bd : ∀ k, k < 72 → -2147483648 ≤ f k ∧ f k ≤ 2147483647
/-- One number turned. -/
def upd (f : Nat → Int) (k : Nat) (v : Int) : Nat → Int := fun j => if j = k then v else f j
section
variable {w w' : World} {g : Nat} {f : Nat → Int} {ov : Value} {tr : Int} {S : Nat → Prop}
theorem set_size (w : World) (p : Addr) (v : Value) : (w.setCell p v).heap.size = w.heap.size := by simp [World.setCell]
theorem cell_same {p : Addr} {v x : Value} (h : w.cell? p = some x) : (w.setCell p v).cell? p = some v := World.cell?_setCell_same w p v h
theorem cell_other {g k j : Nat} (v : Value) (hne : k ≠ j) : (w.setCell ⟨g, k, none⟩ v).cell? ⟨g, j, none⟩ = w.cell? ⟨g, j, none⟩ :=
  World.cell?_setCell_other w ⟨g, k, none⟩ ⟨g, j, none⟩ v (fun e => hne (by injection e))
theorem StF.set (h : StF w g f ov tr) {k : Nat} (hk : k < 72) (v : Int) (v0 : -2147483648 ≤ v) (v1 : v ≤ 2147483647) : StF (w.setCell ⟨g, k, none⟩ (.int .i32 v)) g (upd f k v) ov tr := by
  refine ⟨by rw [set_size]; exact h.lt, fun j hj => ?_, ?_, ?_, fun j => by rw [World.frozen?_setCell]; exact h.fro j, fun j hj => ?_⟩
  · by_cases e : j = k
    · subst e
      rw [cell_same (h.num j hj)]
      simp [upd]
    · rw [cell_other _ (Ne.symm e), h.num j hj]
      simp [upd, e]
  · rw [cell_other _ (by omega)]; exact h.out
  · rw [cell_other _ (by omega)]; exact h.trap
  · unfold upd
    split
    · exact ⟨v0, v1⟩
    · exact h.bd j hj
theorem StF.setOut (h : StF w g f ov tr) (v : Value) : StF (w.setCell ⟨g, 72, none⟩ v) g f v tr :=
  ⟨by rw [set_size]; exact h.lt, fun j hj => by rw [cell_other _ (by omega)]; exact h.num j hj, cell_same h.out, by rw [cell_other _ (by omega)]; exact h.trap, fun j => by rw [World.frozen?_setCell]; exact h.fro j, h.bd⟩
theorem StF.setTrap (h : StF w g f ov tr) (v : Int) : StF (w.setCell ⟨g, 73, none⟩ (.int .i64 v)) g f ov v :=
  ⟨by rw [set_size]; exact h.lt, fun j hj => by rw [cell_other _ (by omega)]; exact h.num j hj, by rw [cell_other _ (by omega)]; exact h.out, cell_same h.trap, fun j => by rw [World.frozen?_setCell]; exact h.fro j, h.bd⟩
theorem StF.keep (h : StF w g f ov tr) (hk : Keep w w' S) (hg : ¬ S g) : StF w' g f ov tr :=
  ⟨Nat.lt_of_lt_of_le h.lt hk.size, fun k hk' => (hk.cell (a := ⟨g, k, none⟩) h.lt hg).trans (h.num k hk'), (hk.cell (a := ⟨g, 72, none⟩) h.lt hg).trans h.out, (hk.cell (a := ⟨g, 73, none⟩) h.lt hg).trans h.trap,
   fun k => (hk.frozen (a := ⟨g, k, none⟩) h.lt hg).trans (h.fro k), h.bd⟩
end

/-- Is an index one of an element? its address. -/
def cellOk (n i : Int) : Bool := !(decide (i < 0) || decide (n.tmod 128 ≤ i))
def cellAt (n i : Int) : Int := (n / 128 + i) % 16

set_option maxRecDepth 100000 in
set_option maxHeartbeats 800000 in
theorem cell_yes (w : World) (g : Nat) (n i : Int) (n0 : 0 ≤ n) (n1 : n ≤ 2147483647) (i0 : 0 ≤ i) (i1 : i < n % 128) :
    Calls Tryd.prog 48 #[.pointer (some ⟨g, 0, none⟩), .int .i32 n, .int .i32 i] w fun e w' => e = .returned (.tuple #[.int .i64 (cellAt n i), .bool true]) ∧ w = w' := by
  have t0 : decide (i < 0) = false := by simpa using i0
  have t1 : decide (n % 128 ≤ i) = false := by simpa using i1
  go_enter Tryd.func48, Tryd.ntmps48
  go_wp2_with fail
  go_ret2
  exact ⟨rfl, rfl⟩
set_option maxRecDepth 100000 in
set_option maxHeartbeats 800000 in
theorem cell_no (w : World) (g : Nat) (f : Nat → Int) (ov : Value) (tr : Int) (n i : Int) (h : StF w g f ov tr) (n0 : 0 ≤ n) (n1 : n ≤ 2147483647) (i0 : -2147483648 ≤ i) (i2 : i ≤ 2147483647) (i1 : i < 0 ∨ n % 128 ≤ i) :
    Calls Tryd.prog 48 #[.pointer (some ⟨g, 0, none⟩), .int .i32 n, .int .i32 i] w fun e w' => e = .returned (.tuple #[.int .i64 0, .bool false]) ∧ w.setCell ⟨g, 73, none⟩ (.int .i64 3) = w' := by
  have c73 := h.trap
  have f73 := h.fro 73
  have hlt := h.lt
  by_cases hi : i < 0
  · clear i1
    go_enter Tryd.func48, Tryd.ntmps48
    go_wp2_with fail
    go_ret2
    exact ⟨rfl, rfl⟩
  · have h1 : n % 128 ≤ i := by omega
    have h0 : 0 ≤ i := by omega
    clear i1 hi
    go_enter Tryd.func48, Tryd.ntmps48
    go_wp2_with fail
    go_ret2
    exact ⟨rfl, rfl⟩
end Go.Proofs.YthkiajbgdamjgaaDoor

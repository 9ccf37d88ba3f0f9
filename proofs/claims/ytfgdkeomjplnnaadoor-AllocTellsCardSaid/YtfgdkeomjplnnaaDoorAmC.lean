/- homes; and the chapter's spans. Condition: the table is as it is laid. -/
import Derived.Test.YtfgdkeomjplnnaaDoorAmB
namespace Go.Proofs.YtfgdkeomjplnnaaDoor
set_option linter.unusedVariables false
open Go.RowKit
attribute [local irreducible] Blk
set_option maxRecDepth 100000 in
theorem homes_law (w : World) (A A' : Option Addr) (sp : List Sp) (b : List Hm) (c c' : Nat) (order : List Nat) (ho : Ordered sp order) (hr : RepS w A sp) (hb : RepH w A' b) (hbl : b.length ≤ 1000) (hn : sp.length ≤ 1000) (hfr : ∀ s ∈ sp, -1000000000 ≤ s.fr ∧ s.fr ≤ 1000000000) (hT : TabAt 1 Lib.deBruijn64tab w) (hW : 1 < w.heap.size) :
    Calls Tryd.prog 18 #[.slice A sp.length c, .slice A' b.length c'] w fun e w' => e = .returned (.bool (decide ((allocF sp order).hs = b))) ∧ Below w.heap.size w w' := by
  have HA := Lib.hid (Alloc_any w A sp c hr hn hfr hT hW)
  have HO := Lib.hid ho
  have HB := Lib.hid hb
  clear ho hr hb hfr hT
  go_enter Tryd.func18, Tryd.ntmps18
  go_wp2_with fail
  refine HA.out.mono ?_
  rintro e w1 ⟨o2, Bh, ho2, hBh, rfl, hblk, hlen, hok, hbel⟩
  obtain rfl := ho2.unique HO.out
  have hH := RepH.of_blk hblk
  have HH := Lib.hid (Homes_any w1 (some ⟨Bh, 0, none⟩) A' (allocF sp o2).hs b sp.length c' hH (HB.out.far hbel) (by omega) (by omega))
  rw [hlen] at HH
  have HBL := Lib.hid hbel
  clear hH hblk hok hbel ho2
  go_wp2_with fail
  refine HH.out.mono ?_
  rintro e w2 ⟨rfl, m, rfl⟩
  go_wp2_with fail
  go_ret
  exact ⟨rfl, below_drewN HBL.out m⟩
theorem made_sp (n : Nat) : madeCells #[Value.int .i64 0, Value.int .i64 0, Value.int .i64 0] (n * 3) = (spCells (List.replicate n ⟨0, 0, 0⟩)).toArray := by
  have e : ∀ n, spCells (List.replicate n ⟨0, 0, 0⟩) = List.replicate (n * 3) (Value.int .i64 0) := by
    intro n
    induction n with
    | zero => rfl
    | succ n ih =>
      rw [List.replicate_succ]
      show (Sp.arr ⟨0, 0, 0⟩).toList ++ spCells (List.replicate n ⟨0, 0, 0⟩) = _
      rw [ih, show (n + 1) * 3 = 3 + n * 3 by omega, ← List.replicate_append_replicate]
      rfl
  rw [e]
  apply Array.ext
  · simp [madeCells]
  · intro i h1 h2
    have h3 : i % 3 = 0 ∨ i % 3 = 1 ∨ i % 3 = 2 := by omega
    rcases h3 with h3 | h3 | h3 <;> simp [madeCells, h3]
def zero7 : List Value := spCells (List.replicate 7 ⟨0, 0, 0⟩)
theorem run_mk7 (w : World) : (Instr.makeSlice 24 (.int .i64 7) (.int .i64 7)).run Tryd.prog w = .ok (.slice (some ⟨w.heap.size, 0, none⟩) 7 7) (w.alloc (.cells zero7.toArray 32)) := by
  obtain ⟨i0, hi0, hz0, hz1, hz2⟩ := info_parts infoSp
  have h := run_make w 24 32 i0 _ Tryd.underlying24 hi0 hz0 .i64 .i64 7 7 (by omega) (Int.le_refl _) (by rw [hz2]; omega) (by omega)
  rw [h, hz1]
  have e : madeCells (Value.agg #[Value.int IntKind.i64 0, Value.int IntKind.i64 0, Value.int IntKind.i64 0]).cells (Int.toNat 7 * 3) = (spCells (List.replicate 7 ⟨0, 0, 0⟩)).toArray := made_sp 7
  rw [e]
  rfl
def sevenTo (till : Int) (k : Nat) : List Sp := List.replicate k ⟨0, 0, till⟩ ++ List.replicate (7 - k) ⟨0, 0, 0⟩
theorem sevenTo_succ (till : Int) : ∀ k, k < 7 → (spCells (sevenTo till k)).toArray.setIfInBounds (k * 3 + 2) (.int .i64 till) = (spCells (sevenTo till (k + 1))).toArray
  | 0, _ => rfl
  | 1, _ => rfl
  | 2, _ => rfl
  | 3, _ => rfl
  | 4, _ => rfl
  | 5, _ => rfl
  | 6, _ => rfl
  | k + 7, h => by omega
def sevenL : List Sp := [⟨0, 0, 9⟩, ⟨0, 0, 9⟩, ⟨0, 0, 20⟩, ⟨0, 0, 9⟩, ⟨0, 0, 9⟩, ⟨0, 0, 9⟩, ⟨0, 0, 9⟩]
def shortL : List Sp := [⟨0, 0, 4⟩, ⟨0, 0, 4⟩, ⟨0, 0, 4⟩, ⟨0, 0, 4⟩, ⟨0, 0, 4⟩, ⟨0, 0, 4⟩, ⟨0, 1, 2⟩]
def threeL : List Sp := [⟨0, 0, 9⟩, ⟨0, 1, 3⟩, ⟨0, 3, 5⟩]
def ord7 : List Nat := [0, 1, 2, 3, 4, 5, 6]
def ord3 : List Nat := [0, 1, 2]
theorem ordered7 : Ordered sevenL ord7 := ordered_of (by decide) (by decide)
theorem orderedS : Ordered shortL ord7 := ordered_of (by decide) (by decide)
theorem ordered3 : Ordered threeL ord3 := ordered_of (by decide) (by decide)
def h3 : List Hm := [⟨false, 0⟩, ⟨false, 1⟩, ⟨false, 1⟩]
def h7 : List Hm := [⟨false, 0⟩, ⟨false, 1⟩, ⟨true, 0⟩, ⟨false, 3⟩, ⟨false, 4⟩, ⟨false, 5⟩, ⟨false, 2⟩]
def hS : List Hm := [⟨false, 0⟩, ⟨false, 1⟩, ⟨false, 2⟩, ⟨false, 3⟩, ⟨false, 4⟩, ⟨true, 0⟩, ⟨false, 5⟩]
theorem is3 : (allocF threeL ord3).hs = h3 := by decide +kernel
theorem is7 : (allocF sevenL ord7).hs = h7 ∧ (allocF sevenL ord7).sl = 1 ∧ regsF (allocF sevenL ord7).hs = 6 := by decide +kernel
theorem isS : (allocF shortL ord7).hs = hS := by decide +kernel
end Go.Proofs.YtfgdkeomjplnnaaDoor

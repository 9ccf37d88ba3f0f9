/- The allocator's give; where a span ends. Conditions: sizes; the table is as it is laid. -/
import Derived.Test.YtfgdkeomjplnnaaDoorAlI
import Derived.Laws.BitsAllLaws
namespace Go.Proofs.YtfgdkeomjplnnaaDoor
set_option linter.unusedVariables false
open Go.RowKit
attribute [local irreducible] Blk
theorem max_lit (ats : Array TypeId) (ty : TypeId) (a d : Int) : Builtin.max_ ats ty #[.int .i64 a, .int .i64 d] = pure (.int .i64 (max a d)) := by
  rw [Int.max_def]
  have h : Builtin.max_ ats ty #[.int .i64 a, .int .i64 d] = pure (.int .i64 (if a < d then d else a)) := rfl
  rw [h]
  by_cases h1 : a < d
  · rw [if_pos h1, if_pos (by omega)]
  · rw [if_neg h1]
    by_cases h2 : a ≤ d
    · rw [if_pos h2]
      congr 2
      omega
    · rw [if_neg h2]
structure Sp where
  v : Int
  fr : Int
  till : Int
  deriving DecidableEq
def Sp.arr (s : Sp) : Array Value := #[.int .i64 s.v, .int .i64 s.fr, .int .i64 s.till]
def enS (s : Sp) : Int := max s.till (s.fr + 1)
set_option maxRecDepth 100000 in
theorem end_any (w : World) (s : Sp) (h0 : -1000000000 ≤ s.fr) (h1 : s.fr ≤ 1000000000) : Calls Tryd.prog 25 #[.agg s.arr] w fun e w' => e = .returned (.int .i64 (enS s)) ∧ Below w.heap.size w w' := by
  obtain ⟨v, a, b⟩ := s
  unfold enS Sp.arr
  simp only at *
  obtain ⟨m, hm⟩ : ∃ m, max b (a + 1) = m := ⟨_, rfl⟩
  have hmax := fun ats ty => max_lit ats ty b (a + 1)
  rw [hm] at hmax
  rw [hm]
  clear hm
  go_enter Tryd.func25, Tryd.ntmps25
  go_wp2_with fail
  go_ret
  exact ⟨rfl, (Below.refl _ _).alloc (Nat.le_refl _) _⟩
theorem tab_below {B0 g : Nat} {tab : List Nat} {w w' : World} (h : TabAt g tab w) (hg : g < B0) (hb : Below B0 w w') : TabAt g tab w' := fun j hj => (hb.cell (p := ⟨g, j, none⟩) hg).trans (h j hj)
def clr (fr r : Nat) : Nat := fr &&& (18446744073709551615 - 2 ^ r)
section
variable {B0 : Nat} {W : World} {Ba Bh : Nat} {ev : Value} {es : List Hd} {fr : Nat} {hs : List Hm} {sl : Nat}
set_option maxRecDepth 100000 in
set_option maxHeartbeats 1600000 in
theorem slot_any (h : AlW B0 W Ba Bh ev es fr hs sl) (i : Nat) (hi : i < hs.length) (hl : hs.length ≤ 1000000) (hs0 : sl ≤ 1000000) :
    Calls Tryd.prog 41 #[.pointer (some ⟨Ba, 0, none⟩), .int .i64 (i : Int)] W fun e w' => e = .returned (.tuple #[]) ∧ AlP B0 W Ba Bh ev es fr (hs.set i ⟨true, (sl : Int)⟩) (sl + 1) w' := by
  obtain ⟨f0, f1, f2, f3, ff⟩ := h.facts
  obtain ⟨x, hx⟩ : ∃ x, hs[i]? = some x := ⟨hs[i], List.getElem?_eq_getElem hi⟩
  obtain ⟨q0, q1⟩ := hmCells_get hs i _ hx
  have h0 := (h.hom.cell (i * 2)).trans (show _ = some (Value.bool x.isSlot) by simpa using q0)
  have h1 := (h.hom.cell (i * 2 + 1)).trans (show _ = some (Value.int .i64 x.n) by simpa using q1)
  have fh := h.hom.frozen
  have HA := Lib.hid (h.drew.setH hi ⟨true, (sl : Int)⟩)
  have HA2 := Lib.hid (h.setH hi ⟨true, (sl : Int)⟩)
  have HB := Lib.hid (((Below.refl B0 W).setCell (p := ⟨Bh, i * 2, none⟩) (by exact h.b1) (.bool true)).setCell (p := ⟨Bh, i * 2 + 1, none⟩) (by exact h.b1) (.int .i64 (sl : Int)))
  have i0 : (0 : Int) ≤ (i : Int) := by omega
  have i1 : (i : Int) < (hs.length : Int) := by omega
  have s0 : (0 : Int) ≤ (sl : Int) := by omega
  have n1 : ¬ Ba = Bh := h.ah
  have n2 : ¬ Bh = Ba := fun e => n1 e.symm
  have HAb := Lib.hid h.b0
  clear h q0 q1 hx
  go_enter Tryd.func41, Tryd.ntmps41
  go_wp2_with fail
  go_big_region
  have K := Lib.hid HA2.out.drew
  have hc3 := K.out.facts.2.2.2.1
  have hff := K.out.blk.frozen
  have HS := Lib.hid (K.out.setS (sl + 1))
  have HSB := Lib.hid ((HB.out.drew).setCell (p := ⟨Ba, 3, none⟩) (by exact HAb.out) (.int .i64 ((sl + 1 : Nat) : Int)))
  have HKK := Lib.hid (show Keep W ((W.setCell ⟨Bh, i * 2, none⟩ (.bool true)).setCell ⟨Bh, i * 2 + 1, none⟩ (.int .i64 (sl : Int))).drew (fun k => k = Ba ∨ k = Bh ∨ ev.ownBlock = some k) from (((Keep.refl W _).setCell _ (fun _ => .inr (.inl rfl)) _).setCell _ (fun _ => .inr (.inl rfl)) _).drew)
  clear f0 f1 f2 f3 ff h0 h1 fh
  try simp only at hc3 hff HS HSB
  have e1 : ((sl + 1 : Nat) : Int) = (sl : Int) + 1 := by omega
  rw [e1] at HS HSB
  clear e1
  generalize ((W.setCell ⟨Bh, i * 2, none⟩ (.bool true)).setCell ⟨Bh, i * 2 + 1, none⟩ (.int .i64 (sl : Int))).drew = w2 at *
  go_wp2_with fail
  go_end0
  exact ⟨rfl, HS.out, HSB.out, (HKK.out).setCell _ (fun _ => .inl rfl) _⟩
end
end Go.Proofs.YtfgdkeomjplnnaaDoor

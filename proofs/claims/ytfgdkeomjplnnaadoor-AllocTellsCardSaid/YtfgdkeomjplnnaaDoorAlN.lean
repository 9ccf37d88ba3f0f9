/- slices.rotateCmpFunc and insertionSortCmpFunc over the order of spans. Conditions: sizes. -/
import Derived.Test.YtfgdkeomjplnnaaDoorAlM
namespace Go.Proofs.YtfgdkeomjplnnaaDoor
set_option linter.unusedVariables false
open Go.RowKit
attribute [local irreducible] Blk
/-- Two neighbouring ranges have changed places. -/
def RotR (l : List Nat) (a m b : Nat) (l' : List Nat) : Prop :=
  l'.Perm l ∧ ∀ p, gN l' p = if a ≤ p ∧ p < a + (b - m) then gN l (p + (m - a)) else if a + (b - m) ≤ p ∧ p < b then gN l (p - (b - m)) else gN l p
structure RotI (l : List Nat) (a m b i j : Nat) (c : List Nat) : Prop where
  perm : c.Perm l
  i0 : 0 < i
  j0 : 0 < j
  ia : i ≤ m - a
  jb : j ≤ b - m
  am : a ≤ m
  mb : m ≤ b
  at' : ∀ p, (if a ≤ p ∧ p < a + (b - m) then gN l (p + (m - a)) else if a + (b - m) ≤ p ∧ p < b then gN l (p - (b - m)) else gN l p) = if m - i ≤ p ∧ p < m - i + j then gN c (p + i) else if m - i + j ≤ p ∧ p < m + j then gN c (p - j) else gN c p
theorem RotI.start {l : List Nat} {a m b : Nat} (h1 : a < m) (h2 : m < b) : RotI l a m b (m - a) (b - m) l :=
  ⟨List.Perm.refl _, by omega, by omega, by omega, by omega, by omega, by omega, fun p => by
    rw [show m - (m - a) = a by omega, show m + (b - m) = b by omega]⟩
theorem RotI.left {l : List Nat} {a m b i j : Nat} {c c' : List Nat} (h : RotI l a m b i j c) (hij : j < i) (hS : SwapR c (m - i) m j c') : RotI l a m b (i - j) j c' := by
  refine ⟨hS.1.trans h.perm, by omega, h.j0, by have := h.ia; omega, h.jb, h.am, h.mb, fun p => ?_⟩
  have hia := h.ia
  have ham := h.am
  have hj0 := h.j0
  rw [h.at' p, hS.2 (p + (i - j)), hS.2 (p - j), hS.2 p]
  repeat' split
  all_goals first
    | (exfalso; omega)
    | rfl
    | (congr 1; omega)
theorem RotI.right {l : List Nat} {a m b i j : Nat} {c c' : List Nat} (h : RotI l a m b i j c) (hij : i < j) (hS : SwapR c (m - i) (m + j - i) i c') : RotI l a m b i (j - i) c' := by
  refine ⟨hS.1.trans h.perm, h.i0, by omega, h.ia, by have := h.jb; omega, h.am, h.mb, fun p => ?_⟩
  have hia := h.ia
  have ham := h.am
  have hi0 := h.i0
  rw [h.at' p, hS.2 (p + i), hS.2 (p - (j - i)), hS.2 p]
  repeat' split
  all_goals first
    | (exfalso; omega)
    | rfl
    | (congr 1; omega)
theorem RotI.done {l : List Nat} {a m b i : Nat} {c c' : List Nat} (h : RotI l a m b i i c) (hS : SwapR c (m - i) m i c') : RotR l a m b c' := by
  refine ⟨hS.1.trans h.perm, fun p => ?_⟩
  have hia := h.ia
  have ham := h.am
  have hi0 := h.i0
  rw [h.at' p, hS.2 p]
  repeat' split
  all_goals first
    | (exfalso; omega)
    | rfl
    | (congr 1; omega)
section
variable {W : World} {Bo Bl : Nat} {A : Option Addr} {cA : Nat} {sp : List Sp} {l : List Nat}
def RotP (W : World) (Bo Bl : Nat) (A : Option Addr) (cA : Nat) (sp : List Sp) (l : List Nat) (a m b : Nat) (e : Ending) (w' : World) : Prop :=
  e = .returned (.tuple #[]) ∧ ∃ l', RotR l a m b l' ∧ OrW w' Bo Bl A cA sp l' ∧ Keep W w' (fun k => k = Bo)
set_option maxRecDepth 100000 in
set_option maxHeartbeats 1600000 in
theorem rotate_any (h : OrW W Bo Bl A cA sp l) (hl : l.length ≤ 1000000) (a m b : Nat) (ham : a < m) (hmb : m < b) (hb : b ≤ l.length) (co : Nat) (ai mi bi : Int) (ea : ai = (a : Int)) (em : mi = (m : Int)) (eb : bi = (b : Int)) (cf : Value) :
    Calls Tryd.prog 74 #[.slice (some ⟨Bo, 0, none⟩) l.length co, .int .i64 ai, .int .i64 mi, .int .i64 bi, cf] W (RotP W Bo Bl A cA sp l a m b) := by
  subst ea em eb
  have H := Lib.hid h
  clear h
  go_enter Tryd.func74, Tryd.ntmps74
  go_wp2_with fail
  go_loopw [10, 11] (fun iv jv wr => ∃ (i j : Nat) (c : List Nat), iv = .int .i64 (i : Int) ∧ jv = .int .i64 (j : Int) ∧ Hid (RotI l a m b i j c) ∧ Hid (OrW wr Bo Bl A cA sp c ∧ Keep W wr (fun k => k = Bo))) (fun iv jv _ => (intOf iv + intOf jv).toNat)
  case atStart => exact ⟨m - a, b - m, l, congrArg (Value.int .i64) (by omega), congrArg (Value.int .i64) (by omega), Lib.hid (RotI.start ham hmb), Lib.hid ⟨H.out, Keep.refl _ _⟩⟩
  case round =>
    obtain ⟨i, j, c, rfl, rfl, HI, HW⟩ := hrel
    have hcl := HI.out.perm.length_eq
    have HCL := Lib.hid hcl
    have hi0 := HI.out.i0
    have hj0 := HI.out.j0
    have hia := HI.out.ia
    have hjb := HI.out.jb
    have hlc : c.length ≤ 1000000 := by omega
    have i0 : (0 : Int) ≤ (i : Int) := by omega
    have j0 : (0 : Int) ≤ (j : Int) := by omega
    have z1 : (i : Int) ≤ 1000000 := by omega
    have z2 : (j : Int) ≤ 1000000 := by omega
    have z3 : (m : Int) ≤ 1000000 := by omega
    have z4 : (0 : Int) ≤ (m : Int) - (i : Int) := by omega
    by_cases hij : i = j
    · subst hij
      have n1 : ((i : Int) != (i : Int)) = false := by simp
      have HSW := Lib.hid (fun ai bi ni ea eb en => swapRange_any HW.out.1 hlc (m - i) m i (by omega) (by omega) co ai bi ni ea eb en cf)
      rw [HCL.out] at HSW
      clear hcl
      go_wp2_with fail
      refine (HSW.out _ _ _ (by omega) rfl rfl).mono ?_
      rintro e w2 ⟨rfl, c', hS, hW2, hK2⟩
      have HE := Lib.hid (show RotP W Bo Bl A cA sp l a m b (.returned (.tuple #[])) w2 from ⟨rfl, c', HI.out.done hS, hW2, HW.out.2.trans hK2 (fun _ _ h => h)⟩)
      clear hS hW2 hK2
      go_wp2_with fail
      go_end0
      exact HE.out
    · have n1 : ((i : Int) != (j : Int)) = true := by simp; omega
      by_cases hlt : j < i
      · have g1 : (i : Int) > (j : Int) := by omega
        have HSW := Lib.hid (fun ai bi ni ea eb en => swapRange_any HW.out.1 hlc (m - i) m j (by omega) (by omega) co ai bi ni ea eb en cf)
        rw [HCL.out] at HSW
        clear hcl
        go_wp2_with fail
        refine (HSW.out _ _ _ (by omega) rfl rfl).mono ?_
        rintro e w2 ⟨rfl, c', hS, hW2, hK2⟩
        have HR := Lib.hid (HI.out.left hlt hS)
        have HW2 := Lib.hid (show OrW w2 Bo Bl A cA sp c' ∧ Keep W w2 (fun k => k = Bo) from ⟨hW2, HW.out.2.trans hK2 (fun _ _ h => h)⟩)
        clear hS hW2 hK2
        go_wp2_with fail
        exact ⟨⟨i - j, j, c', congrArg (Value.int .i64) (by omega), rfl, HR, HW2⟩, by simp [intOf]; omega⟩
      · have g1 : ¬ (i : Int) > (j : Int) := by omega
        have HSW := Lib.hid (fun ai bi ni ea eb en => swapRange_any HW.out.1 hlc (m - i) (m + j - i) i (by omega) (by omega) co ai bi ni ea eb en cf)
        rw [HCL.out] at HSW
        clear hcl
        go_wp2_with fail
        refine (HSW.out _ _ _ (by omega) (by omega) rfl).mono ?_
        rintro e w2 ⟨rfl, c', hS, hW2, hK2⟩
        have HR := Lib.hid (HI.out.right (by omega) hS)
        have HW2 := Lib.hid (show OrW w2 Bo Bl A cA sp c' ∧ Keep W w2 (fun k => k = Bo) from ⟨hW2, HW.out.2.trans hK2 (fun _ _ h => h)⟩)
        clear hS hW2 hK2
        go_wp2_with fail
        exact ⟨⟨i, j - i, c', rfl, congrArg (Value.int .i64) (by omega), HR, HW2⟩, by simp [intOf]; omega⟩
end
end Go.Proofs.YtfgdkeomjplnnaaDoor

/- ploverlaw19.example and works: the chapter's example. No condition. -/
import Derived.Test.YtfmkfmcplffhdaaLvI
namespace Go.Proofs.Ytfmkfmcplffhdaa
set_option linter.unusedVariables false
open Go.RowKit
attribute [local irreducible] Blk

def insCells (l : List I9) : List Value := l.flatMap (fun s => s.arr.toList)
def loCells (l : List Lo4) : List Value := l.flatMap (fun s => s.arr.toList)
theorem flat_get {α : Type} (f : α → List Value) (m : Nat) (hf : ∀ x, (f x).length = m) : ∀ (l : List α) (k : Nat) (x : α), l[k]? = some x → ∀ j u, (f x)[j]? = some u → (l.flatMap f)[k * m + j]? = some u
  | [], k, x, h, _, _, _ => by simp at h
  | y :: t, 0, x, h, j, u, hu => by
    simp at h
    subst h
    have hl : j < (f y).length := (List.getElem?_eq_some_iff.1 hu).1
    show (f y ++ t.flatMap f)[0 * m + j]? = some u
    rw [Nat.zero_mul, Nat.zero_add, List.getElem?_append_left hl]
    exact hu
  | y :: t, k + 1, x, h, j, u, hu => by
    have ih := flat_get f m hf t k x (by simpa using h) j u hu
    show (f y ++ t.flatMap f)[(k + 1) * m + j]? = some u
    have e : (k + 1) * m = k * m + m := by rw [Nat.add_mul, Nat.one_mul]
    rw [List.getElem?_append_right (by rw [hf y]; omega), hf y]
    rw [show (k + 1) * m + j - m = k * m + j by omega]
    exact ih
theorem RepI.of_blk {w : World} {g : Nat} {l : List I9} (h : Blk w g 33 (insCells l).toArray) : RepI w (some ⟨g, 0, none⟩) l := fun _ =>
  ⟨g, 0, rfl, h.lt, fun k x hx i u hi => by rw [h.cell, Nat.zero_add]; simpa [insCells] using flat_get (fun s : I9 => s.arr.toList) 9 (fun _ => rfl) l k x hx i u (by simpa using hi)⟩
theorem RepLo.of_blk {w : World} {g : Nat} {l : List Lo4} (h : Blk w g 57 (loCells l).toArray) : RepLo w (some ⟨g, 0, none⟩) l := fun _ =>
  ⟨g, 0, rfl, h.lt, fun k x hx i u hi => by rw [h.cell, Nat.zero_add]; simpa [loCells] using flat_get (fun s : Lo4 => s.arr.toList) 4 (fun _ => rfl) l k x hx i u (by simpa using hi)⟩

def exI : List I9 := [⟨0, 0, 0, 0, 0, 0, 0, 0, 0⟩, ⟨1, 0, 0, 2, 0, 0, 0, 0, 0⟩, ⟨3, 0, 0, 3, 0, 2, 0, 0, 0⟩, ⟨2, 0, 0, 1, 3, 0, 0, 0, 0⟩, ⟨0, 0, 0, 0, 0, 0, 0, 0, 1⟩, ⟨10, 0, 0, 0, 1, 0, 0, 0, 1⟩, ⟨0, 0, 0, 0, 0, 0, 0, 0, 2⟩, ⟨14, 0, 0, 0, -1, 0, 0, 0, 2⟩]
def exL : List Lo4 := [⟨⟨#[112]⟩, 0, 0, 3⟩, ⟨⟨#[120]⟩, 0, 1, 3⟩]
def ExP (w : World) (e : Ending) (w' : World) : Prop := ∃ ga gb, e = .returned (.tuple #[.slice (some ⟨ga, 0, none⟩) 8 8, .slice (some ⟨gb, 0, none⟩) 2 2]) ∧ RepI w' (some ⟨ga, 0, none⟩) exI ∧ RepLo w' (some ⟨gb, 0, none⟩) exL ∧ Below w.heap.size w w'
set_option maxRecDepth 100000 in
theorem example_any (w : World) : Calls Try.prog 34 #[] w (ExP w) := by
  go_enter Try.func34, Try.ntmps34
  go_wp2_with fail
  go_ret2
  exact ⟨w.heap.size, w.heap.size + 1, rfl, RepI.of_blk (Blk.alloc (Blk.new _ _ _) _), RepLo.of_blk (Blk.newAt (by simp)), ((Below.refl _ _).alloc (Nat.le_refl _) _).alloc (by simp) _⟩
end Go.Proofs.Ytfmkfmcplffhdaa

/- live.Begins: where a step begins. No condition. -/
import Derived.Test.YtfmkfmcplffhdaaLvC
namespace Go.Proofs.Ytfmkfmcplffhdaa
set_option linter.unusedVariables false
open Go.RowKit
attribute [local irreducible] Blk

/-- A slice of instructions. -/
def RepI (w : World) (A : Option Addr) (l : List I9) : Prop :=
  l ≠ [] → ∃ b o, A = some ⟨b, o, none⟩ ∧ b < w.heap.size ∧ ∀ k x, l[k]? = some x → ∀ j u, x.arr[j]? = some u → w.cell? ⟨b, o + k * 9 + j, none⟩ = some u
theorem RepI.far {w w' : World} {A : Option Addr} {l : List I9} (h : RepI w A l) (hb : Below w.heap.size w w') : RepI w' A l := fun hne => by
  obtain ⟨b, o, hA, hl, hall⟩ := h hne
  exact ⟨b, o, hA, Nat.lt_of_lt_of_le hl hb.size, fun k x hx j u hu => (hb.cell (p := ⟨b, _, none⟩) hl).trans (hall k x hx j u hu)⟩
/-- The place of the first instruction whose step is not less. -/
def beginsN (l : List I9) (st : Int) : Nat := l.findIdx (fun i => decide (st ≤ i.step))
theorem beginsN_le (l : List I9) (st : Int) : beginsN l st ≤ l.length := List.findIdx_le_length
theorem beginsN_at {l : List I9} {st : Int} {k : Nat} {x : I9} (hx : l[k]? = some x) (hs : st ≤ x.step) (hall : ∀ (j : Nat) (y : I9), j < k → l[j]? = some y → y.step < st) : beginsN l st = k := by
  obtain ⟨hlt, he⟩ := List.getElem?_eq_some_iff.1 hx
  refine (List.findIdx_eq hlt).2 ⟨by rw [he]; simpa using hs, fun j hj => ?_⟩
  have := hall j l[j] hj (List.getElem?_eq_getElem (by omega))
  simp
  omega
theorem beginsN_none {l : List I9} {st : Int} (hall : ∀ (j : Nat) (y : I9), l[j]? = some y → y.step < st) : beginsN l st = l.length := by
  refine List.findIdx_eq_length.2 fun x hx => ?_
  obtain ⟨j, hj, he⟩ := List.mem_iff_getElem.1 hx
  have := hall j x (by rw [List.getElem?_eq_getElem hj, he])
  simp
  omega

set_option maxRecDepth 100000 in
theorem step_any (w : World) (i : I9) (B : Nat) (st : Int) (hB : w.cell? ⟨B, 0, none⟩ = some (.int .i64 st)) (hl : B < w.heap.size) :
    Calls Try.prog 25 #[.agg i.arr, .pointer (some ⟨B, 0, none⟩)] w fun e w' => e = .returned (.bool (decide (st ≤ i.step))) ∧ Below w.heap.size w w' := by
  go_enter Try.func25, Try.ntmps25
  unfold I9.arr
  go_wp2_with fail
  go_ret
  exact ⟨rfl, (Below.refl _ _).alloc (Nat.le_refl _) _⟩
def IdxP (w : World) (l : List I9) (st : Int) (e : Ending) (w' : World) : Prop := e = .returned (.int .i64 (if beginsN l st < l.length then (beginsN l st : Int) else -1)) ∧ Below w.heap.size w w'
set_option maxRecDepth 100000 in
set_option maxHeartbeats 1600000 in
theorem index_any (w : World) (A : Option Addr) (l : List I9) (c B : Nat) (st : Int) (hr : RepI w A l) (hll : l.length ≤ 1000000000) (hB : w.cell? ⟨B, 0, none⟩ = some (.int .i64 st)) (hl : B < w.heap.size) :
    Calls Try.prog 41 #[.slice A l.length c, .func (.func 25) #[] #[.pointer (some ⟨B, 0, none⟩)]] w (IdxP w l st) := by
  have HR := Lib.hid hr
  clear hr
  go_enter Try.func41, Try.ntmps41
  go_wp2_with fail
  go_loopw [8] (fun ix wr => ∃ k : Nat, k ≤ l.length ∧ ix = .int .i64 (k : Int) ∧ Hid (∀ (j : Nat) (y : I9), j < k → l[j]? = some y → y.step < st) ∧ Below w.heap.size w wr) (fun ix _ => l.length - (intOf ix).toNat)
  case atStart => exact ⟨0, Nat.zero_le _, rfl, Lib.hid (fun j y hj => absurd hj (Nat.not_lt_zero _)), Below.refl _ _⟩
  case round =>
    obtain ⟨k, hk, rfl, hall, hbr⟩ := hrel
    have hbs := hbr.size
    have hB' := (hbr.cell (p := ⟨B, 0, none⟩) hl).trans hB
    by_cases hlt : k < l.length
    · obtain ⟨x, hx⟩ : ∃ x, l[k]? = some x := ⟨l[k], List.getElem?_eq_getElem hlt⟩
      obtain ⟨b, o, rfl, hb, hcs⟩ := HR.out (by intro h; rw [h] at hlt; simp at hlt)
      have k0 : (0 : Int) ≤ (k : Int) := by omega
      have k1 : (k : Int) < (l.length : Int) := by omega
      have cc := fun j u hu => (hbr.cell (p := ⟨b, o + k * 9 + j, none⟩) hb).trans (hcs k x hx j u hu)
      have c0 := cc 0 (.int .i64 x.op) rfl
      have c1 := cc 1 (.int .i64 x.op2) rfl
      have c2 := cc 2 (.int .i64 x.ty) rfl
      have c3 := cc 3 (.int .i64 x.d) rfl
      have c4 := cc 4 (.int .i64 x.a) rfl
      have c5 := cc 5 (.int .i64 x.b) rfl
      have c6 := cc 6 (.int .i64 x.n) rfl
      have c7 := cc 7 (.int .i64 x.count) rfl
      have c8 := cc 8 (.int .i64 x.step) rfl
      rw [Nat.add_zero] at c0
      have HX := Lib.hid hx
      clear cc hcs hx
      by_cases hs : st ≤ x.step
      · have hs2 : decide (st ≤ x.step) = true := by simpa using hs
        have hsc := step_any wr x B st hB' (by omega)
        rw [hs2] at hsc
        unfold I9.arr at hsc
        go_wp2_with (refine hsc.mono ?_; rintro e w2 ⟨rfl, hb2⟩)
        go_ret
        unfold IdxP
        rw [beginsN_at HX.out hs hall.out, if_pos hlt]
        exact ⟨rfl, hbr.trans (hb2.mono hbs)⟩
      · have hs2 : decide (st ≤ x.step) = false := by simpa using hs
        have hsc := step_any wr x B st hB' (by omega)
        rw [hs2] at hsc
        unfold I9.arr at hsc
        go_wp2_with (refine hsc.mono ?_; rintro e w2 ⟨rfl, hb2⟩)
        go_roundw
        case rel =>
          refine ⟨k + 1, by omega, by go_num, Lib.hid (fun j y hj hy => ?_), hbr.trans (hb2.mono hbs)⟩
          by_cases hjk : j = k
          · subst hjk
            have := Option.some.inj (hy.symm.trans HX.out)
            subst this
            omega
          · exact hall.out j y (by omega) hy
        case measure => simp [intOf]; omega
    · have hn : ¬ ((k : Int) < (l.length : Int)) := by omega
      have hkl : k = l.length := by omega
      subst hkl
      go_wp2_with fail
      go_ret
      unfold IdxP
      rw [beginsN_none (fun j y hy => hall.out j y (List.getElem?_eq_some_iff.1 hy).1 hy), if_neg (Nat.lt_irrefl _)]
      exact ⟨rfl, hbr⟩
set_option maxRecDepth 100000 in
theorem first_any (w : World) (A : Option Addr) (l : List I9) (c B : Nat) (st : Int) (hr : RepI w A l) (hll : l.length ≤ 1000000000) (hB : w.cell? ⟨B, 0, none⟩ = some (.int .i64 st)) (hl : B < w.heap.size) :
    Calls Try.prog 24 #[.slice A l.length c, .func (.func 25) #[] #[.pointer (some ⟨B, 0, none⟩)]] w fun e w' => e = .returned (.int .i64 (beginsN l st : Int)) ∧ Below w.heap.size w w' := by
  have hi := index_any w A l c B st hr hll hB hl
  have hle := beginsN_le l st
  unfold IdxP at hi
  clear hr hB
  by_cases hlt : beginsN l st < l.length
  · rw [if_pos hlt] at hi
    generalize beginsN l st = q at *
    have q0 : (0 : Int) ≤ (q : Int) := by omega
    go_enter Try.func24, Try.ntmps24
    go_wp2_with (refine hi.mono ?_; rintro e w2 ⟨rfl, hb2⟩)
    go_ret
    exact ⟨rfl, hb2⟩
  · rw [if_neg hlt] at hi
    have he : beginsN l st = l.length := by omega
    rw [he]
    clear hle hlt he
    go_enter Try.func24, Try.ntmps24
    go_wp2_with (refine hi.mono ?_; rintro e w2 ⟨rfl, hb2⟩)
    go_ret
    exact ⟨rfl, hb2⟩
set_option maxRecDepth 100000 in
theorem Begins_any (w : World) (A : Option Addr) (l : List I9) (c : Nat) (st : Int) (hr : RepI w A l) (hll : l.length ≤ 1000000000) :
    Calls Try.prog 13 #[.slice A l.length c, .int .i64 st] w fun e w' => e = .returned (.int .i64 (beginsN l st : Int)) ∧ Below w.heap.size w w' := by
  have hf := first_any (w.alloc (.cells #[.int .i64 st] 3)) A l c w.heap.size st (hr.far ((Below.refl _ _).alloc (Nat.le_refl _) _)) hll (cell_of_blk (Blk.new w _ _) (by rfl)) (by simp)
  clear hr
  go_enter Try.func13, Try.ntmps13
  go_wp2_with (refine hf.mono ?_; rintro e w2 ⟨rfl, hb2⟩)
  go_ret
  exact ⟨rfl, ((Below.refl _ _).alloc (Nat.le_refl _) _).trans (hb2.mono (by simp))⟩
end Go.Proofs.Ytfmkfmcplffhdaa

/- alloc.Alloc gives spans the homes that the model tells. Conditions: sizes; the table is as it is laid. -/
import Derived.Test.YtfgdkeomjplnnaaDoorAlX
import Derived.Laws.MakeOwn
namespace Go.Proofs.YtfgdkeomjplnnaaDoor
set_option linter.unusedVariables false
open Go.RowKit
attribute [local irreducible] Blk
theorem infoInt : (Tryd.prog.info? 3).map (fun i => (i.zero, i.size, i.bytes)) = some (some (.int .i64 0), 1, 8) := by kernel_rfl
theorem infoHome : (Tryd.prog.info? 30).map (fun i => (i.zero, i.size, i.bytes)) = some (some (.agg #[.bool false, .int .i64 0]), 2, 16) := by kernel_rfl
theorem made_ints (n : Nat) : madeCells #[Value.int .i64 0] (n * 1) = (nCells (List.replicate n 0)).toArray := by
  apply Array.ext
  · simp [madeCells, nCells]
  · intro i h1 h2
    simp [madeCells, nCells, Nat.mod_one]
theorem made_homes (n : Nat) : madeCells #[Value.bool false, Value.int .i64 0] (n * 2) = (hmCells (List.replicate n ⟨false, 0⟩)).toArray := by
  apply Array.ext
  · simp [madeCells, hmCells_len]
  · intro i h1 h2
    have hi : i < n * 2 := by simpa [madeCells] using h1
    obtain ⟨g1, g2⟩ := hmCells_get (List.replicate n ⟨false, 0⟩) (i / 2) ⟨false, 0⟩ (by rw [List.getElem?_replicate, if_pos (by omega)])
    have hr : (hmCells (List.replicate n ⟨false, 0⟩)).toArray[i]? = some ((hmCells (List.replicate n ⟨false, 0⟩)).toArray[i]) := Array.getElem?_eq_getElem h2
    rw [List.getElem?_toArray] at hr
    rcases Nat.mod_two_eq_zero_or_one i with h | h
    · rw [show i / 2 * 2 = i by omega, hr] at g1
      rw [Option.some.inj g1]
      simp [madeCells, h]
    · rw [show i / 2 * 2 + 1 = i by omega, hr] at g2
      rw [Option.some.inj g2]
      simp [madeCells, h]
theorem run_mk_ints (n : Nat) (hn : n ≤ 1000000) (w : World) : (Instr.makeSlice 44 (.int .i64 (n : Int)) (.int .i64 (n : Int))).run Tryd.prog w = .ok (.slice (some ⟨w.heap.size, 0, none⟩) n n) (w.alloc (.cells (nCells (List.replicate n 0)).toArray 3)) := by
  obtain ⟨i0, hi0, hz0, hz1, hz2⟩ := info_parts infoInt
  have h := run_make w 44 3 i0 _ Tryd.underlying44 hi0 hz0 .i64 .i64 (n : Int) (n : Int) (by omega) (Int.le_refl _) (by rw [hz2]; omega) (by omega)
  rw [h, hz1]
  simp only [Int.toNat_natCast, Value.cells]
  rw [made_ints]
theorem run_mk_homes (n : Nat) (hn : n ≤ 1000000) (w : World) : (Instr.makeSlice 26 (.int .i64 (n : Int)) (.int .i64 (n : Int))).run Tryd.prog w = .ok (.slice (some ⟨w.heap.size, 0, none⟩) n n) (w.alloc (.cells (hmCells (List.replicate n ⟨false, 0⟩)).toArray 30)) := by
  obtain ⟨i0, hi0, hz0, hz1, hz2⟩ := info_parts infoHome
  have h := run_make w 26 30 i0 _ Tryd.underlying26 hi0 hz0 .i64 .i64 (n : Int) (n : Int) (by omega) (Int.le_refl _) (by rw [hz2]; omega) (by omega)
  rw [h, hz1]
  simp only [Int.toNat_natCast, Value.cells]
  rw [made_homes]
/-- A slice of spans. -/
def RepS (w : World) (A : Option Addr) (l : List Sp) : Prop :=
  l ≠ [] → ∃ b o, A = some ⟨b, o, none⟩ ∧ b < w.heap.size ∧ ∀ k x, l[k]? = some x → ∀ j u, x.arr[j]? = some u → w.cell? ⟨b, o + k * 3 + j, none⟩ = some u
theorem RepS.far {w w' : World} {A : Option Addr} {l : List Sp} (h : RepS w A l) (hb : Below w.heap.size w w') : RepS w' A l := fun hne => by
  obtain ⟨b, o, hA, hl, hall⟩ := h hne
  exact ⟨b, o, hA, Nat.lt_of_lt_of_le hl hb.size, fun k x hx j u hu => (hb.cell (p := ⟨b, _, none⟩) hl).trans (hall k x hx j u hu)⟩
def regsF (hs : List Hm) : Int := hs.foldl (fun m h => if h.isSlot then m else max m (h.n + 1)) 0
def HsOk (hs : List Hm) : Prop := ∀ h ∈ hs, 0 ≤ h.n ∧ h.n ≤ 1000000
theorem HsOk.set {hs : List Hm} (h : HsOk hs) {i : Nat} {x : Hm} (h0 : 0 ≤ x.n) (h1 : x.n ≤ 1000000) : HsOk (hs.set i x) := fun y hy => by
  rcases List.mem_or_eq_of_mem_set hy with hy | rfl
  · exact h y hy
  · exact ⟨h0, h1⟩
theorem HsOk.setN {hs : List Hm} (h : HsOk hs) (i : Nat) (b : Bool) (m : Nat) (hm : m ≤ 1000000) : HsOk (hs.set i ⟨b, (m : Int)⟩) := fun y hy => by
  rcases List.mem_or_eq_of_mem_set hy with hy | rfl
  · exact h y hy
  · exact ⟨Int.natCast_nonneg _, by show (m : Int) ≤ _; omega⟩
/-- The places of spans, in order. -/
structure Ordered (sp : List Sp) (order : List Nat) : Prop where
  perm : order.Perm (List.range sp.length)
  srt : SortedOn sp order 0 sp.length
def AllocP (w : World) (sp : List Sp) (e : Ending) (w' : World) : Prop :=
  ∃ (order : List Nat) (Bh : Nat), Ordered sp order ∧ w.heap.size ≤ Bh ∧ e = .returned (.tuple #[.slice (some ⟨Bh, 0, none⟩) sp.length sp.length, .int .i64 (regsF (allocF sp order).hs), .int .i64 ((allocF sp order).sl : Int)]) ∧
    Blk w' Bh 30 (hmCells (allocF sp order).hs).toArray ∧ (allocF sp order).hs.length = sp.length ∧ HsOk (allocF sp order).hs ∧ Below w.heap.size w w'
theorem heldL_full : ∀ (sp : List Sp) (holds : List (Option Nat)), (∀ o ∈ holds, o ≠ none) → (heldL sp holds).length = holds.length
  | sp, [], _ => rfl
  | sp, none :: t, h => absurd rfl (h none (by simp))
  | sp, some i :: t, h => by
    have := heldL_full sp t (fun o ho => h o (List.mem_cons_of_mem _ ho))
    unfold heldL at *
    simpa using this
theorem InvS.len6 {sp : List Sp} {done : List Nat} {st : St} {es : List Hd} (h : InvS sp done st es 0) : es.length = 6 := by
  rw [h.perm.length_eq, heldL_full, h.len]
  intro o ho hn
  subst hn
  obtain ⟨r, hr⟩ := List.getElem?_of_mem ho
  obtain ⟨j, hj⟩ := h.full.1 r (by have := (List.getElem?_eq_some_iff.1 hr).1; have := h.len; omega)
  rw [hr] at hj
  cases hj
section
variable {W : World} {sp : List Sp} {B0 Ba Bh : Nat} {ev : Value} {es : List Hd} {fr : Nat} {st : St} {done : List Nat}
/-- give, told of the model. -/
def GivenP (B0 : Nat) (W : World) (Ba Bh : Nat) (sp : List Sp) (done : List Nat) (st : St) (e : Ending) (w' : World) : Prop :=
  ∃ ev' es' fr', e = .returned (.tuple #[]) ∧ InvS sp done st es' fr' ∧ HsOk st.hs ∧ AlW B0 w' Ba Bh ev' es' fr' st.hs st.sl ∧ Below B0 W w'
theorem give_any (h : AlW B0 W Ba Bh ev es fr st.hs st.sl) (hI : InvS sp done st es fr) (hok : HsOk st.hs) (hh : HeapFrom es 0 es.length) (hn : sp.length ≤ 100000) (hd : done.length ≤ 100000) (i : Nat) (hi : i < sp.length) (hid : i ∉ done) (hT : TabAt 1 Lib.deBruijn64tab W) (hB : 1 < B0) (en : Int) (he : mkH sp i = ⟨i, en⟩) :
    Calls Tryd.prog 24 #[.pointer (some ⟨Ba, 0, none⟩), .agg #[.int .i64 (i : Int), .int .i64 en]] W (GivenP B0 W Ba Bh sp (done ++ [i]) (giveF sp st st.holds i)) := by
  have hsl := hI.sl
  have hhl := hI.hlen
  by_cases hf : fr = 0
  · subst hf
    have h6 := hI.len6
    obtain ⟨l, rest, rfl⟩ : ∃ l rest, es = l :: rest := by
      cases es with
      | nil => simp at h6
      | cons l r => exact ⟨l, r, rfl⟩
    have hr5 : rest.length = 5 := by simpa using h6
    cases hlo : lo ⟨i, en⟩ l with
    | true =>
      refine (give_slot (x := ⟨i, en⟩) h (by omega) (by omega) (by show i < _; omega) (by omega) hlo).mono ?_
      rintro e w' ⟨ev', es', rfl, hp, hA, hb⟩
      obtain ⟨k1, k2, k3⟩ := hI.slot (i := i) (es' := es') hh hid hi (by rw [he]; exact hlo) hp
      exact ⟨ev', es', 0, rfl, k1, by rw [k2]; exact hok.setN _ _ _ (by omega), by rw [k2, k3]; exact hA, hb⟩
    | false =>
      obtain ⟨N, hN, hlN⟩ := hI.reg l (List.mem_cons_self)
      refine (give_swap (x := ⟨i, en⟩) h (by omega) (by omega) (by omega) (by show i < _; omega) (by omega) hlo hN hlN hT hB).mono ?_
      rintro e w' ⟨ev', es', rfl, hp, hA, hb⟩
      obtain ⟨k1, k2, k3⟩ := hI.swap (i := i) (es' := es') hh hid hi (by rw [he]; exact hlo) hN hlN (by rw [he]; exact hp)
      have hc6 := (pow_ctz ⟨N, hN⟩).1
      simp only at hc6
      exact ⟨ev', es', _, rfl, k1, by rw [k2]; exact (hok.setN _ _ _ (by omega)).setN _ _ _ (by omega), by rw [k2, k3]; exact hA, hb⟩
  · refine (give_free (x := ⟨i, en⟩) h hI.six (by omega) (by show i < _; omega) hf hI.f64 hT hB).mono ?_
    rintro e w' ⟨ev', es', rfl, hp, hA, hb⟩
    obtain ⟨k1, k2, k3⟩ := hI.free (i := i) (es' := es') hf hid hi (by rw [he]; exact hp)
    have hr6 := ctz_lt ⟨fr, hI.f64⟩ hf
    simp only at hr6
    exact ⟨ev', es', _, rfl, k1, by rw [k2]; exact hok.setN _ _ _ (by omega), by rw [k2, k3]; exact hA, hb⟩
end
end Go.Proofs.YtfgdkeomjplnnaaDoor

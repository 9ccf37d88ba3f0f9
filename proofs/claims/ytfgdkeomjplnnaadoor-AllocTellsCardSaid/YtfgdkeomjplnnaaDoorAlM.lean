/- The order of spans: its comparing, and the library's exchanges of ranges. Conditions: sizes. -/
import Derived.Test.YtfgdkeomjplnnaaDoorAlL
namespace Go.Proofs.YtfgdkeomjplnnaaDoor
set_option linter.unusedVariables false
open Go.RowKit
attribute [local irreducible] Blk
def gN (l : List Nat) (k : Nat) : Nat := (l[k]?).getD 0
theorem gN_of {l : List Nat} {k x : Nat} (h : l[k]? = some x) : gN l k = x := by unfold gN; rw [h]; rfl
theorem gN_some {l : List Nat} {k : Nat} (h : k < l.length) : l[k]? = some (gN l k) := by unfold gN; rw [List.getElem?_eq_getElem h]; rfl
theorem gN_mem {l : List Nat} {k : Nat} (h : k < l.length) : gN l k ∈ l := List.mem_of_getElem? (gN_some h)
def exch (l : List Nat) (p q : Nat) : List Nat := (l.set p (gN l q)).set q (gN l p)
theorem exch_len (l : List Nat) (p q : Nat) : (exch l p q).length = l.length := by simp [exch]
theorem exch_perm {l : List Nat} {p q : Nat} (hp : p < l.length) (hq : q < l.length) : (exch l p q).Perm l := by
  have h1 := gN_some hp
  have h2 := gN_some hq
  obtain ⟨_, h3⟩ := List.getElem?_eq_some_iff.1 h1
  obtain ⟨_, h4⟩ := List.getElem?_eq_some_iff.1 h2
  unfold exch
  rw [← h3, ← h4]
  exact List.set_set_perm hp hq
theorem exch_gN {l : List Nat} {p q : Nat} (hp : p < l.length) (hq : q < l.length) (k : Nat) : gN (exch l p q) k = if k = q then gN l p else if k = p then gN l q else gN l k := by
  unfold exch
  show ((((l.set p (gN l q)).set q (gN l p))[k]?).getD 0) = _
  rw [List.getElem?_set, List.getElem?_set, List.length_set]
  by_cases h1 : k = q
  · subst h1
    simp [hq]
  · by_cases h2 : k = p
    · subst h2
      simp [h1, hp, Ne.symm h1]
    · simp [h1, h2, Ne.symm h1, Ne.symm h2, gN]
def nCells (l : List Nat) : List Value := l.map (fun i : Nat => Value.int .i64 (i : Int))
theorem nCells_get {l : List Nat} {k : Nat} (h : k < l.length) : (nCells l)[k]? = some (.int .i64 (gN l k : Int)) := by
  unfold nCells
  rw [List.getElem?_map, gN_some h]
  rfl
theorem nCells_set (l : List Nat) (k x : Nat) : nCells (l.set k x) = (nCells l).set k (.int .i64 (x : Int)) := by
  unfold nCells
  rw [List.map_set]
def frS (sp : List Sp) (i : Nat) : Int := ((sp[i]?).map Sp.fr).getD 0
structure OrW (W : World) (Bo Bl : Nat) (A : Option Addr) (cA : Nat) (sp : List Sp) (l : List Nat) : Prop where
  row : Blk W Bo 3 (nCells l).toArray
  box : Blk W Bl 24 #[.slice A sp.length cA]
  rep : sp ≠ [] → ∃ b o, A = some ⟨b, o, none⟩ ∧ b < Bo ∧ ∀ k x, sp[k]? = some x → ∀ j u, x.arr[j]? = some u → W.cell? ⟨b, o + k * 3 + j, none⟩ = some u
  lt : ∀ i ∈ l, i < sp.length
section
variable {W : World} {Bo Bl : Nat} {A : Option Addr} {cA : Nat} {sp : List Sp} {l : List Nat}
theorem OrW.drewN (h : OrW W Bo Bl A cA sp l) (n : Nat) : OrW (W.drewN n) Bo Bl A cA sp l := ⟨h.row.drewN n, h.box.drewN n, h.rep, h.lt⟩
theorem OrW.ne (h : OrW W Bo Bl A cA sp l) : Bl ≠ Bo := h.box.ne_ty h.row (by decide)
theorem OrW.cell (h : OrW W Bo Bl A cA sp l) {k : Nat} (hk : k < l.length) : W.cell? ⟨Bo, k, none⟩ = some (.int .i64 (gN l k : Int)) :=
  (h.row.cell k).trans (by rw [List.getElem?_toArray, nCells_get hk])
theorem OrW.exch (h : OrW W Bo Bl A cA sp l) {p q : Nat} (hp : p < l.length) (hq : q < l.length) : OrW ((W.setCell ⟨Bo, p, none⟩ (.int .i64 (gN l q : Int))).setCell ⟨Bo, q, none⟩ (.int .i64 (gN l p : Int))) Bo Bl A cA sp (exch l p q) := by
  refine ⟨?_, (h.box.far (by exact h.ne) _).far (by exact h.ne) _, fun hne => ?_, fun i hi => h.lt i ((exch_perm hp hq).mem_iff.1 hi)⟩
  · have := (h.row.set p (.int .i64 (gN l q : Int))).set q (.int .i64 (gN l p : Int))
    unfold Go.Proofs.YtfgdkeomjplnnaaDoor.exch
    rw [nCells_set, nCells_set]
    simpa using this
  · obtain ⟨b, o, hA, hb, hall⟩ := h.rep hne
    refine ⟨b, o, hA, hb, fun k x hx j u hu => ?_⟩
    rw [World.cell?_setCell_other _ _ _ _ (by intro e; simp only [Addr.mk.injEq] at e; omega), World.cell?_setCell_other _ _ _ _ (by intro e; simp only [Addr.mk.injEq] at e; omega)]
    exact hall k x hx j u hu
set_option maxRecDepth 100000 in
theorem cmp_any (h : OrW W Bo Bl A cA sp l) (x y : Nat) (hx : x < sp.length) (hy : y < sp.length) (hl : sp.length ≤ 1000000) :
    Calls Tryd.prog 21 #[.int .i64 (x : Int), .int .i64 (y : Int), .pointer (some ⟨Bl, 0, none⟩)] W fun e w' => e = .returned (.int .i64 (cmpI (frS sp x) (frS sp y))) ∧ ∃ n, w' = W.drewN n := by
  obtain ⟨b, o, rfl, hb, hall⟩ := h.rep (by intro e; rw [e] at hx; simp at hx)
  obtain ⟨sx, hsx⟩ : ∃ s, sp[x]? = some s := ⟨sp[x], List.getElem?_eq_getElem hx⟩
  obtain ⟨sy, hsy⟩ : ∃ s, sp[y]? = some s := ⟨sp[y], List.getElem?_eq_getElem hy⟩
  have c0 := (h.box.cell 0).trans (show _ = some (Value.slice (some ⟨b, o, none⟩) sp.length cA) from rfl)
  have cx := hall x sx hsx 1 (.int .i64 sx.fr) rfl
  have cy := hall y sy hsy 1 (.int .i64 sy.fr) rfl
  rw [show frS sp x = sx.fr by unfold frS; rw [hsx]; rfl, show frS sp y = sy.fr by unfold frS; rw [hsy]; rfl]
  have x0 : (0 : Int) ≤ (x : Int) := by omega
  have x1 : (x : Int) < (sp.length : Int) := by omega
  have y0 : (0 : Int) ≤ (y : Int) := by omega
  have y1 : (y : Int) < (sp.length : Int) := by omega
  generalize sx.fr = fx at *
  generalize sy.fr = fy at *
  have hC := fun w => Compare_still w fx fy
  generalize cmpI fx fy = cc at *
  have HC := Lib.hid hC
  clear hall hsx hsy h hC
  go_enter Tryd.func21, Tryd.ntmps21
  go_wp2_with fail
  go_quiet ((go_at_call 22; exact Calls.quiet_of_same (HC.out _)))
  go_wp2_with fail
  go_ret
  exact ⟨rfl, _, rfl⟩
/-- Two ranges of the row are exchanged. -/
def SwapR (l : List Nat) (a b n : Nat) (l' : List Nat) : Prop :=
  l'.Perm l ∧ ∀ p, gN l' p = if a ≤ p ∧ p < a + n then gN l (p + (b - a)) else if b ≤ p ∧ p < b + n then gN l (p - (b - a)) else gN l p
theorem SwapR.start (l : List Nat) (a b : Nat) : SwapR l a b 0 l := ⟨List.Perm.refl _, fun p => by rw [if_neg (by omega), if_neg (by omega)]⟩
theorem SwapR.step {l m : List Nat} {a b n : Nat} (h : SwapR l a b n m) (hab : a + n < b) (hb : b + n < l.length) : SwapR l a b (n + 1) (exch m (a + n) (b + n)) := by
  have hml := h.1.length_eq
  refine ⟨(exch_perm (by omega) (by omega)).trans h.1, fun p => ?_⟩
  rw [exch_gN (by omega) (by omega), h.2 p, h.2 (a + n), h.2 (b + n)]
  by_cases h1 : p = b + n
  · subst h1
    rw [if_pos rfl, if_neg (by omega), if_neg (by omega), if_neg (by omega), if_pos (by omega)]
    congr 1
    omega
  · by_cases h2 : p = a + n
    · subst h2
      rw [if_neg h1, if_pos rfl, if_neg (by omega), if_neg (by omega), if_pos (by omega)]
      congr 1
      omega
    · rw [if_neg h1, if_neg h2]
      by_cases h3 : a ≤ p ∧ p < a + n
      · rw [if_pos h3, if_pos (show a ≤ p ∧ p < a + (n + 1) by omega)]
      · rw [if_neg h3]
        by_cases h4 : b ≤ p ∧ p < b + n
        · rw [if_pos h4, if_neg (show ¬ (a ≤ p ∧ p < a + (n + 1)) by omega), if_pos (show b ≤ p ∧ p < b + (n + 1) by omega)]
        · rw [if_neg h4, if_neg (show ¬ (a ≤ p ∧ p < a + (n + 1)) by omega), if_neg (show ¬ (b ≤ p ∧ p < b + (n + 1)) by omega)]
def SwapRP (W : World) (Bo Bl : Nat) (A : Option Addr) (cA : Nat) (sp : List Sp) (l : List Nat) (a b n : Nat) (e : Ending) (w' : World) : Prop :=
  e = .returned (.tuple #[]) ∧ ∃ l', SwapR l a b n l' ∧ OrW w' Bo Bl A cA sp l' ∧ Keep W w' (fun k => k = Bo)
set_option maxRecDepth 100000 in
set_option maxHeartbeats 1600000 in
theorem swapRange_any (h : OrW W Bo Bl A cA sp l) (hl : l.length ≤ 1000000) (a b n : Nat) (hab : a + n ≤ b) (hb : b + n ≤ l.length) (co : Nat) (ai bi ni : Int) (ea : ai = (a : Int)) (eb : bi = (b : Int)) (en : ni = (n : Int)) (cf : Value) :
    Calls Tryd.prog 83 #[.slice (some ⟨Bo, 0, none⟩) l.length co, .int .i64 ai, .int .i64 bi, .int .i64 ni, cf] W (SwapRP W Bo Bl A cA sp l a b n) := by
  subst ea eb en
  have H := Lib.hid h
  clear h
  go_enter Tryd.func83, Tryd.ntmps83
  go_wp2_with fail
  go_loopw [10] (fun iv wr => ∃ (k : Nat) (m : List Nat), iv = .int .i64 (k : Int) ∧ k ≤ n ∧ Hid (SwapR l a b k m) ∧ Hid (OrW wr Bo Bl A cA sp m ∧ Keep W wr (fun k => k = Bo))) (fun iv _ => n - (intOf iv).toNat)
  case atStart => exact ⟨0, l, rfl, Nat.zero_le _, Lib.hid (SwapR.start l a b), Lib.hid ⟨H.out, Keep.refl _ _⟩⟩
  case round =>
    obtain ⟨k, m, rfl, hk, HS, HW⟩ := hrel
    by_cases hlt : k < n
    · have hml := HS.out.1.length_eq
      have hp : a + k < m.length := by omega
      have hq : b + k < m.length := by omega
      have cp := HW.out.1.cell hp
      have cq := HW.out.1.cell hq
      have ff := HW.out.1.row.frozen
      have e1 : ¬ a + k = b + k := by omega
      have e2 : ¬ b + k = a + k := by omega
      have t1 : ((a : Int) + (k : Int)).toNat = a + k := by omega
      have t2 : ((b : Int) + (k : Int)).toNat = b + k := by omega
      have n1 : (0 : Int) ≤ (a : Int) + (k : Int) := by omega
      have n2 : (a : Int) + (k : Int) < (l.length : Int) := by omega
      have n3 : (0 : Int) ≤ (b : Int) + (k : Int) := by omega
      have n4 : (b : Int) + (k : Int) < (l.length : Int) := by omega
      have k0 : (0 : Int) ≤ (k : Int) := by omega
      have k1 : (k : Int) < (n : Int) := by omega
      have HE := Lib.hid (HW.out.1.exch hp hq)
      have HK := Lib.hid (((HW.out.2.setCell ⟨Bo, a + k, none⟩ (fun _ => rfl) (.int .i64 (gN m (b + k) : Int))).setCell ⟨Bo, b + k, none⟩ (fun _ => rfl) (.int .i64 (gN m (a + k) : Int))))
      have HS2 := Lib.hid (HS.out.step (by omega) (by omega))
      generalize gN m (a + k) = gp at *
      generalize gN m (b + k) = gq at *
      clear hml
      go_wp2_with fail
      go_big_region
      go_wp2_with fail
      exact ⟨⟨k + 1, _, rfl, by omega, Lib.hid HS2.out, Lib.hid ⟨HE.out.drewN 1, HK.out.drewN 1⟩⟩, by simp [intOf]; omega⟩
    · have hke : k = n := by omega
      subst hke
      go_wp2_with fail
      go_end0
      exact ⟨rfl, m, HS.out, HW.out⟩
end
end Go.Proofs.YtfgdkeomjplnnaaDoor

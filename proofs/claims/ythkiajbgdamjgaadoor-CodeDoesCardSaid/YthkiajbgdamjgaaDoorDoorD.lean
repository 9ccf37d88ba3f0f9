/- Arguments of CodeDoes opened: a slice of drafts, two arrays of eight numbers. No condition. -/
import Derived.Test.YthkiajbgdamjgaaDoorDoorS
import Derived.Test.YthkiajbgdamjgaaDoorDoM
import Derived.Deep.Slices
import Derived.OpenShut
namespace Go.Proofs.YthkiajbgdamjgaaDoor
open Go.ChangeShapes Go.WideShapes Go.ChangeAt Go.RowKit Go.Deep

section
variable {H : Type} {enc : TypeId × Value → H} {P : Program} {w : World} {base : Nat} {spare : Nat → Bool} {held : Bool}
/-- An array of eight numbers, by value. -/
theorem open_array8 {r : Reach} {b0 : Nat} {t e : TypeId} {k : IntKind} {v : Value} {d : DataW H} {p : List MemPlace} (ht : P.underlying t = some (.array 8 e)) (he : P.underlying e = some (.int k)) (hce : P.cellsOf e = 1) (hct : P.cellsOf t = 8)
    (hv : Value.okWide P w r b0 t v) (h : DataW.Trod enc P w base spare held t v d p) :
    ∃ f : Nat → Int, v = .agg (c8 k f) ∧ ∀ i, i < 8 → (Lit.int k (f i)).wf = true := by
  have hok : ∃ cs, v = .agg cs ∧ cs.size = P.cellsOf t := by
    simp only [Value.okWide, ht] at hv
    obtain ⟨cs, h1, h2, _⟩ := hv
    exact ⟨cs, h1, h2⟩
  obtain ⟨cs, rfl, hsz⟩ := hok
  obtain ⟨fuel, hf⟩ := h
  obtain ⟨xs, m, _, hx, hlen, hxl, hg⟩ := DataW.trod_array ht hf
  rw [hct] at hsz
  have each : ∀ i, i < 8 → ∃ z, cs[i]? = some (.int k z) ∧ (Lit.int k z).wf = true := by
    intro i hi
    have h1 := hg i hi
    rw [hce, Nat.mul_one] at h1
    have hic : i < cs.size := by omega
    have e : (((Value.agg cs).cells.toList).drop i).take 1 = [cs[i]] := by
      have : ((Value.agg cs).cells.toList) = cs.toList := rfl
      rw [this, List.drop_eq_getElem_cons (by simpa using hic)]
      simp
    rw [e, List.getElem?_eq_getElem (by omega)] at h1
    obtain ⟨z, hz, hw⟩ := open_field_int he h1
    exact ⟨z, by rw [Array.getElem?_eq_getElem hic, hz], hw⟩
  obtain ⟨f, hfn⟩ := choose_lt each
  refine ⟨f, ?_, fun i hi => (hfn i hi).2⟩
  congr 1
  refine Array.ext_getElem? fun i => ?_
  by_cases hi : i < 8
  · rw [(hfn i hi).1, c8_get k f hi]
  · rw [Array.getElem?_eq_none (by omega), Array.getElem?_eq_none (by simp [c8]; omega)]
end
theorem cDraft8 : Tryd.prog.cellsOf 44 = 8 := by kernel_rfl
set_option maxRecDepth 100000 in
theorem open_drafts8 {H : Type} {enc : TypeId × Value → H} {W : World} {held : Bool} {r : Reach} {b0 : Nat} {v : Value} {d : DataW H} {p : List MemPlace}
    (hv : Value.okWide Tryd.prog W r b0 32 v) (h : DataW.Trod enc Tryd.prog W 0 (fun _ => true) held 32 v d p) :
    ∃ (A : Option Addr) (l : List R8) (c : Nat), v = .slice A l.length c ∧ DrD W A l ∧ l.length ≤ 9223372036854775807 := by
  obtain ⟨a0, len0, cap0, rfl⟩ := okWide_slice Tryd.underlying32 hv
  obtain ⟨fuel, hf⟩ := h
  rcases open_slice Tryd.underlying32 hf with ⟨h0, _⟩ | ⟨a, len, cap, m, n, D, Pl, hcs, hb, hl, hm, hmm, hx, hi⟩
  · have h1 : a0 = none ∧ len0 = 0 ∧ cap0 = 0 := by simpa [Value.cells] using h0
    obtain ⟨rfl, rfl, rfl⟩ := h1
    exact ⟨none, [], 0, rfl, fun h => absurd rfl h, by simp⟩
  · have h1 : a0 = some a ∧ len0 = len ∧ cap0 = cap := by simpa [Value.cells] using hcs
    obtain ⟨rfl, rfl, rfl⟩ := h1
    have hmc : m = cap0 := by simpa using hmm
    have each : ∀ i, i < len0 → ∃ x : R8, (∀ j u, x.cells[j]? = some u → W.cell? (a.add (i * 8 + j)) = some u) ∧ x.ok := by
      intro i hil
      obtain ⟨cs', hc, ht'⟩ := hi i (by omega)
      rw [cDraft8] at hc
      obtain ⟨_, hcl, hat⟩ := World.cells?_some hc
      match cs', hcl with
      | [c0, c1, c2, c3, c4, c5, c6, c7], _ =>
        have hf := trod_fields Tryd.underlying44 (by kernel_rfl) (by rfl) ht'
        obtain ⟨_, _, _, e0, t0⟩ := hf 0 _ rfl
        obtain ⟨_, _, _, e1, t1⟩ := hf 1 _ rfl
        obtain ⟨_, _, _, e2, t2⟩ := hf 2 _ rfl
        obtain ⟨_, _, _, e3, t3⟩ := hf 3 _ rfl
        obtain ⟨_, _, _, e4, t4⟩ := hf 4 _ rfl
        obtain ⟨_, _, _, e5, t5⟩ := hf 5 _ rfl
        obtain ⟨_, _, _, e6, t6⟩ := hf 6 _ rfl
        obtain ⟨_, _, _, e7, t7⟩ := hf 7 _ rfl
        obtain ⟨z0, rfl, w0⟩ := open_field_int Tryd.underlying5 t0
        obtain ⟨z1, rfl, w1⟩ := open_field_int Tryd.underlying5 t1
        obtain ⟨z2, rfl, w2⟩ := open_field_int Tryd.underlying5 t2
        obtain ⟨z3, rfl, w3⟩ := open_field_int Tryd.underlying5 t3
        obtain ⟨z4, rfl, w4⟩ := open_field_int Tryd.underlying5 t4
        obtain ⟨z5, rfl, w5⟩ := open_field_int Tryd.underlying5 t5
        obtain ⟨z6, rfl, w6⟩ := open_field_int Tryd.underlying5 t6
        obtain ⟨z7, rfl, w7⟩ := open_field_int Tryd.underlying5 t7
        simp at e0 e1 e2 e3 e4 e5 e6 e7
        subst e0 e1 e2 e3 e4 e5 e6 e7
        refine ⟨⟨z0, z1, z2, z3, z4, z5, z6, z7⟩, fun j u hu => ?_, ⟨bd_u8 w0, bd_u8 w1, bd_u8 w2, bd_u8 w3, bd_u8 w4, bd_u8 w5, bd_u8 w6, bd_u8 w7⟩⟩
        have hj : j < 8 := by have := (List.getElem?_eq_some_iff.1 hu).1; simpa [R8.cells] using this
        have f0 := hat j hj
        rw [Deep.add_add] at f0
        rw [f0]
        exact hu
    obtain ⟨f, hfn⟩ : ∃ f : Nat → R8, ∀ i, i < len0 → (∀ j u, (f i).cells[j]? = some u → W.cell? (a.add (i * 8 + j)) = some u) ∧ (f i).ok := by
      refine ⟨fun i => if h : i < len0 then Classical.choose (each i h) else ⟨0, 0, 0, 0, 0, 0, 0, 0⟩, fun i hil => ?_⟩
      simp only [dif_pos hil]
      exact Classical.choose_spec (each i hil)
    refine ⟨some a, (List.range len0).map f, cap0, by simp, fun hne => ?_, by simp; unfold maxLen at hm; omega⟩
    have hpos : 0 < len0 := by
      rcases Nat.eq_zero_or_pos len0 with h0 | h0
      · rw [h0] at hne
        simp at hne
      · exact h0
    have hsp : a.spot = none := by
      have h0 := (hfn 0 hpos).1 0 _ rfl
      rw [Nat.zero_mul, addr_add_zero] at h0
      exact World.cell?_spot h0
    obtain ⟨b, o, s⟩ := a
    simp only at hsp
    subst hsp
    refine ⟨b, o, rfl, ?_, fun k x hx => ?_⟩
    · have h0 := (hfn 0 hpos).1 0 _ rfl
      rw [Nat.zero_mul, addr_add_zero] at h0
      rcases Nat.lt_or_ge b W.heap.size with hlt | hge
      · exact hlt
      · simp [World.cell?, Array.getElem?_eq_none hge] at h0
    · have hk : k < len0 := by have := (List.getElem?_eq_some_iff.1 hx).1; simpa using this
      have hxf : x = f k := by simpa [hk] using hx.symm
      subst hxf
      refine ⟨fun i u hu => ?_, (hfn k hk).2⟩
      have h0 := (hfn k hk).1 i u hu
      rw [addr_add, ← Nat.add_assoc] at h0
      exact h0
end Go.Proofs.YthkiajbgdamjgaaDoor

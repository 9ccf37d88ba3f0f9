/- Arguments of CodeSelects opened: an instruction by value, a slice of drafts. No condition. -/
import Derived.Test.YthkiajbgdamjgaaDoorDoor
import Derived.Test.YthkiajbgdamjgaaDoorHomes
import Derived.Deep.Slices
namespace Go.Proofs.YthkiajbgdamjgaaDoor
open Go.ChangeShapes Go.WideShapes Go.ChangeAt Go.RowKit Go.Deep

set_option maxRecDepth 100000 in
theorem open_ins {H : Type} {enc : TypeId × Value → H} {W : World} {base : Nat} {spare : Nat → Bool} {held : Bool} {r : Reach} {b0 : Nat} {v : Value} {d : DataW H} {p : List MemPlace}
    (hv : Value.okWide Tryd.prog W r b0 23 v) (h : DataW.Trod enc Tryd.prog W base spare held 23 v d p) :
    ∃ i : I9, v = .agg #[.int .i64 i.op, .int .i64 i.op2, .int .i64 i.ty, .int .i64 i.d, .int .i64 i.a, .int .i64 i.b, .int .i64 i.n, .int .i64 i.count, .int .i64 i.step] := by
  obtain ⟨cs, rfl, hsz, hf⟩ := open_fields Tryd.underlying23 (by kernel_rfl) (by kernel_rfl) hv h
  obtain ⟨l⟩ := cs
  match l, hsz with
  | [c0, c1, c2, c3, c4, c5, c6, c7, c8], _ =>
    obtain ⟨_, _, _, e0, t0⟩ := hf 0 _ rfl
    obtain ⟨_, _, _, e1, t1⟩ := hf 1 _ rfl
    obtain ⟨_, _, _, e2, t2⟩ := hf 2 _ rfl
    obtain ⟨_, _, _, e3, t3⟩ := hf 3 _ rfl
    obtain ⟨_, _, _, e4, t4⟩ := hf 4 _ rfl
    obtain ⟨_, _, _, e5, t5⟩ := hf 5 _ rfl
    obtain ⟨_, _, _, e6, t6⟩ := hf 6 _ rfl
    obtain ⟨_, _, _, e7, t7⟩ := hf 7 _ rfl
    obtain ⟨_, _, _, e8, t8⟩ := hf 8 _ rfl
    obtain ⟨z0, rfl, _⟩ := open_field_int Tryd.underlying3 t0
    obtain ⟨z1, rfl, _⟩ := open_field_int Tryd.underlying3 t1
    obtain ⟨z2, rfl, _⟩ := open_field_int Tryd.underlying3 t2
    obtain ⟨z3, rfl, _⟩ := open_field_int Tryd.underlying3 t3
    obtain ⟨z4, rfl, _⟩ := open_field_int Tryd.underlying3 t4
    obtain ⟨z5, rfl, _⟩ := open_field_int Tryd.underlying3 t5
    obtain ⟨z6, rfl, _⟩ := open_field_int Tryd.underlying2 t6
    obtain ⟨z7, rfl, _⟩ := open_field_int Tryd.underlying3 t7
    obtain ⟨z8, rfl, _⟩ := open_field_int Tryd.underlying3 t8
    simp at e0 e1 e2 e3 e4 e5 e6 e7 e8
    subst e0 e1 e2 e3 e4 e5 e6 e7 e8
    exact ⟨⟨z0, z1, z2, z3, z4, z5, z6, z7, z8⟩, rfl⟩
section
variable {H : Type} {enc : TypeId × Value → H} {P : Program} {w : World} {base : Nat} {spare : Nat → Bool} {held : Bool}
/-- A struct of fields of one cell each, read out of its cells. -/
theorem trod_fields {t : TypeId} {fs : Array Field} {fuel : Nat} {cs : List Value} {x : DataW H × List MemPlace} (hs : P.underlying t = some (.struct fs)) (hone : oneCellFields P fs = true) (hl : cs.length = fs.size)
    (h : DataW.trod enc P w base spare held fuel t cs = some x) : ∀ (i : Nat) (f : Field), fs[i]? = some f → ∃ c n y, cs[i]? = some c ∧ DataW.trod enc P w base spare held n f.type [c] = some y := by
  obtain ⟨xs, n, _, hx, _, hlen, hg⟩ := DataW.trod_struct hs h
  intro i f hi
  obtain ⟨o, k⟩ := hone_of hone i f hi
  have h1 := hg i f hi
  rw [o, k] at h1
  have hi' : i < fs.size := (Array.getElem?_eq_some_iff.1 hi).1
  have hic : i < cs.length := by omega
  have hxi : i < xs.length := by omega
  have e : (cs.drop i).take 1 = [cs[i]] := by
    rw [List.drop_eq_getElem_cons hic, List.take_succ_cons, List.take_zero]
  rw [e, List.getElem?_eq_getElem hxi] at h1
  exact ⟨cs[i], n, xs[i], List.getElem?_eq_getElem hic, h1⟩
theorem open_field_bool {n : Nat} {t : TypeId} {c : Value} {y : DataW H × List MemPlace} (ht : P.underlying t = some .bool) (h : DataW.trod enc P w base spare held n t [c] = some y) : ∃ b, c = .bool b := by
  obtain ⟨b, hc, _⟩ := DataW.trod_bool ht h
  exact ⟨b, by simpa using hc⟩
end
theorem cHome : Tryd.prog.cellsOf 60 = 2 := by kernel_rfl
set_option maxRecDepth 100000 in
theorem open_drafts {H : Type} {enc : TypeId × Value → H} {W : World} {held : Bool} {r : Reach} {b0 : Nat} {v : Value} {d : DataW H} {p : List MemPlace}
    (hv : Value.okWide Tryd.prog W r b0 24 v) (h : DataW.Trod enc Tryd.prog W 0 (fun _ => true) held 24 v d p) :
    ∃ (A : Option Addr) (l : List (Bool × Int)) (c : Nat), v = .slice A l.length c ∧ DrH W A l ∧ l.length ≤ 9223372036854775807 := by
  obtain ⟨a0, len0, cap0, rfl⟩ := okWide_slice Tryd.underlying24 hv
  obtain ⟨fuel, hf⟩ := h
  rcases open_slice Tryd.underlying24 hf with ⟨h0, _⟩ | ⟨a, len, cap, m, n, D, Pl, hcs, hb, hl, hm, hmm, hx, hi⟩
  · have h1 : a0 = none ∧ len0 = 0 ∧ cap0 = 0 := by simpa [Value.cells] using h0
    obtain ⟨rfl, rfl, rfl⟩ := h1
    exact ⟨none, [], 0, rfl, fun h => absurd rfl h, by simp⟩
  · have h1 : a0 = some a ∧ len0 = len ∧ cap0 = cap := by simpa [Value.cells] using hcs
    obtain ⟨rfl, rfl, rfl⟩ := h1
    have hmc : m = cap0 := by simpa using hmm
    have each : ∀ i, i < len0 → ∃ x : Bool × Int, W.cell? (a.add (i * 2)) = some (.bool x.1) ∧ W.cell? (a.add (i * 2 + 1)) = some (.int .u8 x.2) ∧ 0 ≤ x.2 ∧ x.2 ≤ 255 := by
      intro i hil
      obtain ⟨cs', hc, ht'⟩ := hi i (by omega)
      rw [cHome] at hc
      obtain ⟨_, hcl, hat⟩ := World.cells?_some hc
      match cs', hcl with
      | [c0, c1], _ =>
        have hf := trod_fields Tryd.underlying60 (by kernel_rfl) (by rfl) ht'
        obtain ⟨_, _, _, e0, t0⟩ := hf 0 _ rfl
        obtain ⟨_, _, _, e1, t1⟩ := hf 1 _ rfl
        obtain ⟨b, rfl⟩ := open_field_bool Tryd.underlying4 t0
        obtain ⟨z, rfl, w1⟩ := open_field_int Tryd.underlying5 t1
        simp at e0 e1
        subst e0 e1
        have f0 := hat 0 (by omega)
        have f1 := hat 1 (by omega)
        rw [Deep.add_add] at f0 f1
        exact ⟨(b, z), by simpa using f0, by simpa using f1, (bd_u8 w1).1, (bd_u8 w1).2⟩
    obtain ⟨f, hfn⟩ : ∃ f : Nat → Bool × Int, ∀ i, i < len0 → W.cell? (a.add (i * 2)) = some (.bool (f i).1) ∧ W.cell? (a.add (i * 2 + 1)) = some (.int .u8 (f i).2) ∧ 0 ≤ (f i).2 ∧ (f i).2 ≤ 255 := by
      refine ⟨fun i => if h : i < len0 then Classical.choose (each i h) else (false, 0), fun i hil => ?_⟩
      simp only [dif_pos hil]
      exact Classical.choose_spec (each i hil)
    refine ⟨some a, (List.range len0).map f, cap0, by simp, fun hne => ?_, by simp; unfold maxLen at hm; omega⟩
    have hpos : 0 < len0 := by
      rcases Nat.eq_zero_or_pos len0 with h0 | h0
      · rw [h0] at hne
        simp at hne
      · exact h0
    have hsp : a.spot = none := by
      have h0 := (hfn 0 hpos).1
      rw [Nat.zero_mul, addr_add_zero] at h0
      exact World.cell?_spot h0
    obtain ⟨b, o, s⟩ := a
    simp only at hsp
    subst hsp
    refine ⟨b, o, rfl, ?_, fun k x hx => ?_⟩
    · have h0 := (hfn 0 hpos).1
      rw [Nat.zero_mul, addr_add_zero] at h0
      rcases Nat.lt_or_ge b W.heap.size with hlt | hge
      · exact hlt
      · simp [World.cell?, Array.getElem?_eq_none hge] at h0
    · have hk : k < len0 := by have := (List.getElem?_eq_some_iff.1 hx).1; simpa using this
      have hxf : x = f k := by simpa [hk] using hx.symm
      subst hxf
      have h0 := hfn k hk
      rw [addr_add, addr_add] at h0
      exact ⟨h0.1, h0.2.1, h0.2.2.1, h0.2.2.2⟩
end Go.Proofs.YthkiajbgdamjgaaDoor

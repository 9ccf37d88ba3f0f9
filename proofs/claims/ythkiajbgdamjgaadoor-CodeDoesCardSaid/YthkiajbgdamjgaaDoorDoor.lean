/- The rows' last step: the law returned true, and below the heap's old size nothing has turned; arguments of integer fields are opened. No condition. -/
import Derived.Test.YthkiajbgdamjgaaDoorLaid
import Derived.Carry
import Derived.Deep.Fields
import Derived.ChangeSame
namespace Go.Proofs.YthkiajbgdamjgaaDoor
open Go.ChangeShapes Go.WideShapes Go.ChangeAt Go.RowKit Go.Deep

section
variable {H : Type} {enc : TypeId × Value → H} {P : Program}
theorem trodAll_below (hl : laidOutB P = true) {W W' : World} (hb : Below W.heap.size W W') : ∀ (ts : List TypeId) (vs : List Value) (ds : List (DataW H)) (p : List MemPlace),
    (ts.all fun t => P.readableRec t && decide (t < P.types.size)) = true → (∀ x ∈ p, x.block < W.heap.size) → DataW.TrodAll enc P W 0 (fun _ => true) true ts vs ds p → DataW.TrodAll enc P W' 0 (fun b => decide (b < W.heap.size)) true ts vs ds p
  | [], vs, ds, p, _, _, h => by
    obtain ⟨rfl, rfl, rfl⟩ := trodAll_nil h
    exact trodAll_mk0
  | t :: ts, vs, ds, p, ht, hp, h => by
    obtain ⟨v, vs', d, ds', p0, q, rfl, rfl, rfl, h0, hr⟩ := trodAll_cons h
    simp only [List.all_cons, Bool.and_eq_true, decide_eq_true_eq] at ht
    exact trodAll_cons_mk (Below.trod hl ht.1.1 ht.1.2 h0 hb (fun x hx => hp x (List.mem_append_left _ hx)))
      (trodAll_below hl hb ts vs' ds' q ht.2 (fun x hx => hp x (List.mem_append_right _ hx)) hr)
theorem post_true {f : Func} {s : ChangeSpec} {W W' : World} {args : Array Value} {ds gs : List (DataW H)} {before p : List MemPlace} {t : TypeId}
    (hW : DataW.Whole enc P f.params.toList s.vars false W args.toList ds gs before) (hl : laidOutB P = true) (hp : (f.params.toList.all fun t => P.readableRec t && decide (t < P.types.size)) = true)
    (hA : DataW.TrodAll enc P W 0 (fun _ => true) true f.params.toList args.toList ds p) (hbe : ∀ x ∈ p, x ∈ before) (hv : s.vars = []) (hr : f.resultTypes = #[t]) (ht : P.underlying t = some .bool)
    (hs : s.fn H (ds ++ gs) = { results := [.lit (.bool true)], args := ds }) (hb : Below W.heap.size W W') : s.post enc P f false true false false W args (.bool true) W' := by
  refine ⟨ds, gs, before, [] ++ [], p, [], hW, ?_, ?_, ?_, hb.frame _, fun h => by cases h⟩
  · rw [hs, hr]
    exact trodAll_cons_mk (shut_bool ht _) trodAll_mk0
  · rw [hs]
    exact trodAll_below hl hb _ _ _ _ hp (fun x hx => hW.lt x (hbe x hx)) hA
  · rw [hs, hv]
    rfl
section
variable {w : World} {base : Nat} {spare : Nat → Bool} {held : Bool}
/-- A struct of fields of one cell each, by value. -/
theorem open_fields {r : Reach} {b0 : Nat} {t : TypeId} {fs : Array Field} {v : Value} {d : DataW H} {p : List MemPlace} (hs : P.underlying t = some (.struct fs)) (hone : oneCellFields P fs = true) (hC : P.cellsOf t = fs.size)
    (hv : Value.okWide P w r b0 t v) (h : DataW.Trod enc P w base spare held t v d p) :
    ∃ cs : Array Value, v = .agg cs ∧ cs.size = fs.size ∧ ∀ (i : Nat) (f : Field), fs[i]? = some f → ∃ c n y, cs[i]? = some c ∧ DataW.trod enc P w base spare held n f.type [c] = some y := by
  obtain ⟨cs, rfl, hsz⟩ := okWide_struct hs hv
  obtain ⟨fuel, hf⟩ := h
  obtain ⟨xs, n, _, hx, _, hlen, hg⟩ := DataW.trod_struct hs hf
  refine ⟨cs, rfl, hsz.trans hC, fun i f hi => ?_⟩
  obtain ⟨o, k⟩ := hone_of hone i f hi
  have h1 := hg i f hi
  rw [o, k] at h1
  have hi' : i < fs.size := (Array.getElem?_eq_some_iff.1 hi).1
  have hic : i < cs.size := by rw [hsz, hC]; exact hi'
  have hxi : i < xs.length := by omega
  have e : (((Value.agg cs).cells.toList).drop i).take 1 = [cs[i]] := by
    have : ((Value.agg cs).cells.toList) = cs.toList := rfl
    rw [this, List.drop_eq_getElem_cons (by simpa using hic)]
    simp
  rw [e, List.getElem?_eq_getElem hxi] at h1
  exact ⟨cs[i], n, xs[i], Array.getElem?_eq_getElem hic, h1⟩
theorem open_field_int {n : Nat} {t : TypeId} {k : IntKind} {c : Value} {y : DataW H × List MemPlace} (ht : P.underlying t = some (.int k)) (h : DataW.trod enc P w base spare held n t [c] = some y) : ∃ z, c = .int k z ∧ (Lit.int k z).wf = true := by
  obtain ⟨z, hc, _, hw⟩ := DataW.trod_int ht h
  exact ⟨z, by simpa using hc, hw⟩
end
end
theorem bd_u8 {n : Int} (h : (Lit.int .u8 n).wf = true) : 0 ≤ n ∧ n ≤ 255 := by
  simp only [Lit.wf, Bool.and_eq_true, decide_eq_true_eq] at h
  exact h
theorem bd_i32 {n : Int} (h : (Lit.int .i32 n).wf = true) : -2147483648 ≤ n ∧ n ≤ 2147483647 := by
  simp only [Lit.wf, Bool.and_eq_true, decide_eq_true_eq] at h
  exact h
theorem bd_i64 {n : Int} (h : (Lit.int .i64 n).wf = true) : -9223372036854775808 ≤ n ∧ n ≤ 9223372036854775807 := by
  simp only [Lit.wf, Bool.and_eq_true, decide_eq_true_eq] at h
  exact h
theorem laidOut : laidOutB Tryd.prog = true := by kernel_rfl
set_option maxRecDepth 100000 in
/-- A machine's instruction that came in by value. -/
theorem open_code {H : Type} {enc : TypeId × Value → H} {W : World} {base : Nat} {spare : Nat → Bool} {held : Bool} {r : Reach} {b0 : Nat} {v : Value} {d : DataW H} {p : List MemPlace}
    (hv : Value.okWide Tryd.prog W r b0 49 v) (h : DataW.Trod enc Tryd.prog W base spare held 49 v d p) :
    ∃ x : C5, v = .agg #[.int .u8 x.op, .int .u8 x.a, .int .u8 x.b, .int .u8 x.c, .int .i32 x.n] ∧ 0 ≤ x.op ∧ x.op ≤ 255 ∧ 0 ≤ x.a ∧ x.a ≤ 255 ∧ 0 ≤ x.b ∧ x.b ≤ 255 ∧ 0 ≤ x.c ∧ x.c ≤ 255 ∧ -2147483648 ≤ x.n ∧ x.n ≤ 2147483647 := by
  obtain ⟨cs, rfl, hsz, hf⟩ := open_fields Tryd.underlying49 (by kernel_rfl) (by kernel_rfl) hv h
  obtain ⟨l⟩ := cs
  match l, hsz with
  | [c0, c1, c2, c3, c4], _ =>
    obtain ⟨_, _, _, e0, t0⟩ := hf 0 _ rfl
    obtain ⟨_, _, _, e1, t1⟩ := hf 1 _ rfl
    obtain ⟨_, _, _, e2, t2⟩ := hf 2 _ rfl
    obtain ⟨_, _, _, e3, t3⟩ := hf 3 _ rfl
    obtain ⟨_, _, _, e4, t4⟩ := hf 4 _ rfl
    obtain ⟨z0, rfl, w0⟩ := open_field_int Tryd.underlying5 t0
    obtain ⟨z1, rfl, w1⟩ := open_field_int Tryd.underlying5 t1
    obtain ⟨z2, rfl, w2⟩ := open_field_int Tryd.underlying5 t2
    obtain ⟨z3, rfl, w3⟩ := open_field_int Tryd.underlying5 t3
    obtain ⟨z4, rfl, w4⟩ := open_field_int Tryd.underlying21 t4
    simp at e0 e1 e2 e3 e4
    subst e0 e1 e2 e3 e4
    have b0 := bd_u8 w0
    have b1 := bd_u8 w1
    have b2 := bd_u8 w2
    have b3 := bd_u8 w3
    have b4 := bd_i32 w4
    exact ⟨⟨z0, z1, z2, z3, z4⟩, rfl, b0.1, b0.2, b1.1, b1.2, b2.1, b2.2, b3.1, b3.2, b4.1, b4.2⟩
end Go.Proofs.YthkiajbgdamjgaaDoor

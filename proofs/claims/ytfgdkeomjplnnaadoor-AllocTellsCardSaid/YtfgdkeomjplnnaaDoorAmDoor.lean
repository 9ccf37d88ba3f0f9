/- The rows' last step: the law returned true, and below the heap's old size nothing has turned; drafts are opened. No condition. -/
import Derived.Test.YtfgdkeomjplnnaaDoorAmLaid
import Derived.Test.YtfgdkeomjplnnaaDoorAmB
import Derived.Carry
import Derived.Deep.Fields
import Derived.ChangeSame
namespace Go.Proofs.YtfgdkeomjplnnaaDoor
open Go.ChangeShapes Go.WideShapes Go.ChangeAt Go.RowKit Go.Deep

section
variable {H : Type} {enc : TypeId × Value → H} {P : Program}
theorem trodAll_below (hl : laidOutB P = true) {W W' : World} (hb : Below W.heap.size W W') : ∀ (ts : List TypeId) (vs : List Value) (ds : List (DataW H)) (p : List MemPlace),
    (ts.all fun t => P.readableRec t && decide (t < P.types.size)) = true → (∀ x ∈ p, x.block < W.heap.size) → DataW.TrodAll enc P W 0 (fun _ => true) true ts vs ds p → DataW.TrodAll enc P W' 0 (fun b => decide (b < W.heap.size)) true ts vs ds p
  | [], vs, ds, p, _, _, h => by
    obtain ⟨rfl, rfl, rfl⟩ := trodAll_nil h
    exact trodAll_mk0
  | t :: ts, vs, ds, p, ht, hp, h => by
    obtain ⟨v, vs', d, ds', p0, q, rfl, rfl, rfl, h0, hr⟩ := trodAll_cons h
    simp only [List.all_cons, Bool.and_eq_true, decide_eq_true_eq] at ht
    exact trodAll_cons_mk (Below.trod hl ht.1.1 ht.1.2 h0 hb (fun x hx => hp x (List.mem_append_left _ hx)))
      (trodAll_below hl hb ts vs' ds' q ht.2 (fun x hx => hp x (List.mem_append_right _ hx)) hr)
theorem post_true {f : Func} {s : ChangeSpec} {W W' : World} {args : Array Value} {ds gs : List (DataW H)} {before p : List MemPlace} {t : TypeId}
    (hW : DataW.Whole enc P f.params.toList s.vars false W args.toList ds gs before) (hl : laidOutB P = true) (hp : (f.params.toList.all fun t => P.readableRec t && decide (t < P.types.size)) = true)
    (hA : DataW.TrodAll enc P W 0 (fun _ => true) true f.params.toList args.toList ds p) (hbe : ∀ x ∈ p, x ∈ before) (hv : s.vars = []) (hr : f.resultTypes = #[t]) (ht : P.underlying t = some .bool)
    (hs : s.fn H (ds ++ gs) = { results := [.lit (.bool true)], args := ds }) (hb : Below W.heap.size W W') : s.post enc P f false true false false W args (.bool true) W' := by
  refine ⟨ds, gs, before, [] ++ [], p, [], hW, ?_, ?_, ?_, hb.frame _, fun h => by cases h⟩
  · rw [hs, hr]
    exact trodAll_cons_mk (shut_bool ht _) trodAll_mk0
  · rw [hs]
    exact trodAll_below hl hb _ _ _ _ hp (fun x hx => hW.lt x (hbe x hx)) hA
  · rw [hs, hv]
    rfl
section
variable {w : World} {base : Nat} {spare : Nat → Bool} {held : Bool}
theorem trod_fields {t : TypeId} {fs : Array Field} {fuel : Nat} {cs : List Value} {x : DataW H × List MemPlace} (hs : P.underlying t = some (.struct fs)) (hone : oneCellFields P fs = true) (hl : cs.length = fs.size)
    (h : DataW.trod enc P w base spare held fuel t cs = some x) : ∀ (i : Nat) (f : Field), fs[i]? = some f → ∃ c n y, cs[i]? = some c ∧ DataW.trod enc P w base spare held n f.type [c] = some y := by
  obtain ⟨xs, n, _, hx, _, hlen, hg⟩ := DataW.trod_struct hs h
  intro i f hi
  obtain ⟨o, k⟩ := hone_of hone i f hi
  have h1 := hg i f hi
  rw [o, k] at h1
  have hi' : i < fs.size := (Array.getElem?_eq_some_iff.1 hi).1
  have hic : i < cs.length := by omega
  have hxi : i < xs.length := by omega
  have e : (cs.drop i).take 1 = [cs[i]] := by
    rw [List.drop_eq_getElem_cons hic, List.take_succ_cons, List.take_zero]
  rw [e, List.getElem?_eq_getElem hxi] at h1
  exact ⟨cs[i], n, xs[i], List.getElem?_eq_getElem hic, h1⟩
theorem open_field_int {n : Nat} {t : TypeId} {k : IntKind} {c : Value} {y : DataW H × List MemPlace} (ht : P.underlying t = some (.int k)) (h : DataW.trod enc P w base spare held n t [c] = some y) : ∃ z, c = .int k z ∧ (Lit.int k z).wf = true := by
  obtain ⟨z, hc, _, hw⟩ := DataW.trod_int ht h
  exact ⟨z, by simpa using hc, hw⟩
end
end
theorem bd_u8 {n : Int} (h : (Lit.int .u8 n).wf = true) : 0 ≤ n ∧ n ≤ 255 := by
  simp only [Lit.wf, Bool.and_eq_true, decide_eq_true_eq] at h
  exact h
theorem bd_i32 {n : Int} (h : (Lit.int .i32 n).wf = true) : -2147483648 ≤ n ∧ n ≤ 2147483647 := by
  simp only [Lit.wf, Bool.and_eq_true, decide_eq_true_eq] at h
  exact h
theorem bd_i64 {n : Int} (h : (Lit.int .i64 n).wf = true) : -9223372036854775808 ≤ n ∧ n ≤ 9223372036854775807 := by
  simp only [Lit.wf, Bool.and_eq_true, decide_eq_true_eq] at h
  exact h
theorem laidOut : laidOutB Tryd.prog = true := by kernel_rfl
theorem cDraft : Tryd.prog.cellsOf 36 = 2 := by kernel_rfl
set_option maxRecDepth 100000 in
theorem open_drafts {H : Type} {enc : TypeId × Value → H} {W : World} {held : Bool} {r : Reach} {b0 : Nat} {v : Value} {d : DataW H} {p : List MemPlace}
    (hv : Value.okWide Tryd.prog W r b0 22 v) (h : DataW.Trod enc Tryd.prog W 0 (fun _ => true) held 22 v d p) :
    ∃ (A : Option Addr) (l : List P2) (c : Nat), v = .slice A l.length c ∧ RepP2 W A l ∧ (∀ x ∈ l, OkP2 x) ∧ l.length ≤ 9223372036854775807 := by
  obtain ⟨a0, len0, cap0, rfl⟩ := okWide_slice Tryd.underlying22 hv
  obtain ⟨fuel, hf⟩ := h
  rcases open_slice Tryd.underlying22 hf with ⟨h0, _⟩ | ⟨a, len, cap, m, n, D, Pl, hcs, hb, hl, hm, hmm, hx, hi⟩
  · have h1 : a0 = none ∧ len0 = 0 ∧ cap0 = 0 := by simpa [Value.cells] using h0
    obtain ⟨rfl, rfl, rfl⟩ := h1
    exact ⟨none, [], 0, rfl, fun h => absurd rfl h, (fun x hx => by cases hx), Nat.zero_le _⟩
  · have h1 : a0 = some a ∧ len0 = len ∧ cap0 = cap := by simpa [Value.cells] using hcs
    obtain ⟨rfl, rfl, rfl⟩ := h1
    have hmc : m = cap0 := by simpa using hmm
    have each : ∀ i, i < len0 → ∃ x : P2, (W.cell? (a.add (i * 2)) = some (.int .u8 x.a) ∧ W.cell? (a.add (i * 2 + 1)) = some (.int .u8 x.b)) ∧ OkP2 x := by
      intro i hil
      obtain ⟨cs', hc, ht'⟩ := hi i (by omega)
      rw [cDraft] at hc
      obtain ⟨_, hcl, hat⟩ := World.cells?_some hc
      match cs', hcl with
      | [c0, c1], _ =>
        have hf := trod_fields Tryd.underlying36 (by kernel_rfl) (by rfl) ht'
        obtain ⟨_, _, _, e0, t0⟩ := hf 0 _ rfl
        obtain ⟨_, _, _, e1, t1⟩ := hf 1 _ rfl
        obtain ⟨z0, rfl, w0⟩ := open_field_int Tryd.underlying5 t0
        obtain ⟨z1, rfl, w1⟩ := open_field_int Tryd.underlying5 t1
        simp at e0 e1
        subst e0 e1
        have q0 := bd_u8 w0
        have q1 := bd_u8 w1
        have f0 := hat 0 (by omega)
        have f1 := hat 1 (by omega)
        rw [Deep.add_add] at f0 f1
        exact ⟨⟨z0, z1⟩, ⟨f0, f1⟩, q0.1, q0.2, q1.1, q1.2⟩
    obtain ⟨f, hfn⟩ : ∃ f : Nat → P2, ∀ i, i < len0 → (W.cell? (a.add (i * 2)) = some (.int .u8 (f i).a) ∧ W.cell? (a.add (i * 2 + 1)) = some (.int .u8 (f i).b)) ∧ OkP2 (f i) := by
      refine ⟨fun i => if h : i < len0 then Classical.choose (each i h) else ⟨0, 0⟩, fun i hil => ?_⟩
      simp only [dif_pos hil]
      exact Classical.choose_spec (each i hil)
    refine ⟨some a, (List.range len0).map f, cap0, by simp, fun hne => ?_, fun x hx => ?_, by simp; unfold maxLen at hm; omega⟩
    · have hpos : 0 < len0 := by
        rcases Nat.eq_zero_or_pos len0 with h0 | h0
        · rw [h0] at hne
          simp at hne
        · exact h0
      have h0 := (hfn 0 hpos).1.1
      rw [Nat.zero_mul, addr_add_zero] at h0
      have hsp : a.spot = none := World.cell?_spot h0
      obtain ⟨b, o, s⟩ := a
      simp only at hsp
      subst hsp
      refine ⟨b, o, rfl, ?_, fun k x hx j u hu => ?_⟩
      · rcases Nat.lt_or_ge b W.heap.size with hlt | hge
        · exact hlt
        · simp [World.cell?, Array.getElem?_eq_none hge] at h0
      · have hk : k < len0 := by have := (List.getElem?_eq_some_iff.1 hx).1; simpa using this
        have hxf : x = f k := by simpa [hk] using hx.symm
        subst hxf
        obtain ⟨h1, h2⟩ := (hfn k hk).1
        rw [addr_add] at h1 h2
        rw [← Nat.add_assoc] at h2
        match j with
        | 0 => simp [P2.arr] at hu; subst hu; exact h1
        | 1 => simp [P2.arr] at hu; subst hu; exact h2
        | j + 2 => simp [P2.arr] at hu
    · obtain ⟨i, hi, rfl⟩ := List.mem_map.1 hx
      exact (hfn i (List.mem_range.1 hi)).2
end Go.Proofs.YtfgdkeomjplnnaaDoor

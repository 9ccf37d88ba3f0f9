/- LiveTells: what any instructions read and make, where steps begin, and the spans of all values, are as the document says: the law returns true, for every input. No condition. -/
import Derived.Test.YtfmkfmcplffhdaaRows
import Derived.WalkKit
import Derived.ProofKit
import Derived.OpenShut
import Derived.Test.YtfmkfmcplffhdaaLvTl
import Derived.Test.YtfmkfmcplffhdaaLvDoor
namespace Go.Proofs.Ytfmkfmcplffhdaa
open Go.ChangeShapes Go.WideShapes Go.ChangeAt Go.RowKit Go.Deep
theorem bd_i8 {n : Int} (h : (Lit.int .i8 n).wf = true) : -128 ≤ n ∧ n ≤ 127 := by
  simp only [Lit.wf, Bool.and_eq_true, decide_eq_true_eq] at h
  exact h
section
variable {H : Type} {enc : TypeId × Value → H} {P : Program} {w : World} {base : Nat} {spare : Nat → Bool} {held : Bool}
theorem trod_array2 {t e : TypeId} {fuel : Nat} {c0 c1 : Value} {x : DataW H × List MemPlace} (ht : P.underlying t = some (.array 2 e)) (hce : P.cellsOf e = 1)
    (h : DataW.trod enc P w base spare held fuel t [c0, c1] = some x) :
    ∃ y0 y1 n, DataW.trod enc P w base spare held n e [c0] = some y0 ∧ DataW.trod enc P w base spare held n e [c1] = some y1 := by
  cases fuel with
  | zero => simp [DataW.trod] at h
  | succ n =>
    unfold DataW.trod at h
    rw [ht] at h
    have r2 : List.range 2 = [0, 1] := rfl
    simp [r2, hce] at h
    obtain ⟨_, h⟩ := h
    cases h0 : DataW.trod enc P w base spare held n e [c0] with
    | none => simp [h0] at h
    | some y0 =>
      cases h1 : DataW.trod enc P w base spare held n e [c1] with
      | none => simp [h0, h1] at h
      | some y1 => exact ⟨y0, y1, n, h0, h1⟩
end
theorem cRaw : Try.prog.cellsOf 65 = 5 := by kernel_rfl
theorem cPair : Try.prog.cellsOf 66 = 2 := by kernel_rfl
set_option maxRecDepth 100000 in
theorem open_raws {H : Type} {enc : TypeId × Value → H} {W : World} {held : Bool} {r : Reach} {b0 : Nat} {v : Value} {d : DataW H} {p : List MemPlace}
    (hv : Value.okWide Try.prog W r b0 22 v) (h : DataW.Trod enc Try.prog W 0 (fun _ => true) held 22 v d p) :
    ∃ (A : Option Addr) (l : List Rw5) (c : Nat), v = .slice A l.length c ∧ RepRw W A l ∧ (∀ x ∈ l, OkRw x) ∧ l.length ≤ 9223372036854775807 := by
  obtain ⟨a0, len0, cap0, rfl⟩ := okWide_slice Try.underlying22 hv
  obtain ⟨fuel, hf⟩ := h
  rcases open_slice Try.underlying22 hf with ⟨h0, _⟩ | ⟨a, len, cap, m, n, D, Pl, hcs, hb, hl, hm, hmm, hx, hi⟩
  · have h1 : a0 = none ∧ len0 = 0 ∧ cap0 = 0 := by simpa [Value.cells] using h0
    obtain ⟨rfl, rfl, rfl⟩ := h1
    exact ⟨none, [], 0, rfl, fun h => absurd rfl h, (fun x hx => by cases hx), Nat.zero_le _⟩
  · have h1 : a0 = some a ∧ len0 = len ∧ cap0 = cap := by simpa [Value.cells] using hcs
    obtain ⟨rfl, rfl, rfl⟩ := h1
    have hmc : m = cap0 := by simpa using hmm
    have each : ∀ i, i < len0 → ∃ x : Rw5, (W.cell? (a.add (i * 5)) = some (.int .u8 x.op) ∧ W.cell? (a.add (i * 5 + 1)) = some (.int .i8 x.d) ∧ W.cell? (a.add (i * 5 + 2)) = some (.int .i8 x.a) ∧ W.cell? (a.add (i * 5 + 3)) = some (.int .i8 x.b) ∧ W.cell? (a.add (i * 5 + 4)) = some (.int .u8 x.step)) ∧ OkRw x := by
      intro i hil
      obtain ⟨cs', hc, ht'⟩ := hi i (by omega)
      rw [cRaw] at hc
      obtain ⟨_, hcl, hat⟩ := World.cells?_some hc
      match cs', hcl with
      | [c0, c1, c2, c3, c4], _ =>
        have hf := trod_fields Try.underlying65 (by kernel_rfl) (by rfl) ht'
        obtain ⟨_, _, _, e0, t0⟩ := hf 0 _ rfl
        obtain ⟨_, _, _, e1, t1⟩ := hf 1 _ rfl
        obtain ⟨_, _, _, e2, t2⟩ := hf 2 _ rfl
        obtain ⟨_, _, _, e3, t3⟩ := hf 3 _ rfl
        obtain ⟨_, _, _, e4, t4⟩ := hf 4 _ rfl
        obtain ⟨z0, rfl, w0⟩ := open_field_int Try.underlying5 t0
        obtain ⟨z1, rfl, w1⟩ := open_field_int Try.underlying24 t1
        obtain ⟨z2, rfl, w2⟩ := open_field_int Try.underlying24 t2
        obtain ⟨z3, rfl, w3⟩ := open_field_int Try.underlying24 t3
        obtain ⟨z4, rfl, w4⟩ := open_field_int Try.underlying5 t4
        simp at e0 e1 e2 e3 e4
        subst e0 e1 e2 e3 e4
        have q0 := bd_u8 w0
        have q1 := bd_i8 w1
        have q2 := bd_i8 w2
        have q3 := bd_i8 w3
        have q4 := bd_u8 w4
        have f0 := hat 0 (by omega)
        have f1 := hat 1 (by omega)
        have f2 := hat 2 (by omega)
        have f3 := hat 3 (by omega)
        have f4 := hat 4 (by omega)
        rw [Deep.add_add] at f0 f1 f2 f3 f4
        exact ⟨⟨z0, z1, z2, z3, z4⟩, ⟨f0, f1, f2, f3, f4⟩, q0.1, q0.2, q1.1, q1.2, q2.1, q2.2, q3.1, q3.2, q4.1, q4.2⟩
    obtain ⟨f, hfn⟩ : ∃ f : Nat → Rw5, ∀ i, i < len0 → (W.cell? (a.add (i * 5)) = some (.int .u8 (f i).op) ∧ W.cell? (a.add (i * 5 + 1)) = some (.int .i8 (f i).d) ∧ W.cell? (a.add (i * 5 + 2)) = some (.int .i8 (f i).a) ∧ W.cell? (a.add (i * 5 + 3)) = some (.int .i8 (f i).b) ∧ W.cell? (a.add (i * 5 + 4)) = some (.int .u8 (f i).step)) ∧ OkRw (f i) := by
      refine ⟨fun i => if h : i < len0 then Classical.choose (each i h) else ⟨0, 0, 0, 0, 0⟩, fun i hil => ?_⟩
      simp only [dif_pos hil]
      exact Classical.choose_spec (each i hil)
    refine ⟨some a, (List.range len0).map f, cap0, by simp, fun hne => ?_, fun x hx => ?_, by simp; unfold maxLen at hm; omega⟩
    · have hpos : 0 < len0 := by
        rcases Nat.eq_zero_or_pos len0 with h0 | h0
        · rw [h0] at hne
          simp at hne
        · exact h0
      have h0 := (hfn 0 hpos).1.1
      rw [Nat.zero_mul, addr_add_zero] at h0
      have hsp : a.spot = none := World.cell?_spot h0
      obtain ⟨b, o, s⟩ := a
      simp only at hsp
      subst hsp
      refine ⟨b, o, rfl, ?_, fun k x hx j u hu => ?_⟩
      · rcases Nat.lt_or_ge b W.heap.size with hlt | hge
        · exact hlt
        · simp [World.cell?, Array.getElem?_eq_none hge] at h0
      · have hk : k < len0 := by have := (List.getElem?_eq_some_iff.1 hx).1; simpa using this
        have hxf : x = f k := by simpa [hk] using hx.symm
        subst hxf
        obtain ⟨h1, h2, h3, h4, h5⟩ := (hfn k hk).1
        rw [addr_add] at h1 h2 h3 h4 h5
        rw [← Nat.add_assoc] at h2 h3 h4 h5
        match j with
        | 0 => simp [Rw5.arr] at hu; subst hu; exact h1
        | 1 => simp [Rw5.arr] at hu; subst hu; exact h2
        | 2 => simp [Rw5.arr] at hu; subst hu; exact h3
        | 3 => simp [Rw5.arr] at hu; subst hu; exact h4
        | 4 => simp [Rw5.arr] at hu; subst hu; exact h5
        | j + 5 => simp [Rw5.arr] at hu
    · obtain ⟨i, hi, rfl⟩ := List.mem_map.1 hx
      exact (hfn i (List.mem_range.1 hi)).2
set_option maxRecDepth 100000 in
theorem open_pairs {H : Type} {enc : TypeId × Value → H} {W : World} {held : Bool} {r : Reach} {b0 : Nat} {v : Value} {d : DataW H} {p : List MemPlace}
    (hv : Value.okWide Try.prog W r b0 23 v) (h : DataW.Trod enc Try.prog W 0 (fun _ => true) held 23 v d p) :
    ∃ (A : Option Addr) (l : List P2) (c : Nat), v = .slice A l.length c ∧ RepP2 W A l ∧ (∀ x ∈ l, OkP2 x) ∧ l.length ≤ 9223372036854775807 := by
  obtain ⟨a0, len0, cap0, rfl⟩ := okWide_slice Try.underlying23 hv
  obtain ⟨fuel, hf⟩ := h
  rcases open_slice Try.underlying23 hf with ⟨h0, _⟩ | ⟨a, len, cap, m, n, D, Pl, hcs, hb, hl, hm, hmm, hx, hi⟩
  · have h1 : a0 = none ∧ len0 = 0 ∧ cap0 = 0 := by simpa [Value.cells] using h0
    obtain ⟨rfl, rfl, rfl⟩ := h1
    exact ⟨none, [], 0, rfl, fun h => absurd rfl h, (fun x hx => by cases hx), Nat.zero_le _⟩
  · have h1 : a0 = some a ∧ len0 = len ∧ cap0 = cap := by simpa [Value.cells] using hcs
    obtain ⟨rfl, rfl, rfl⟩ := h1
    have hmc : m = cap0 := by simpa using hmm
    have each : ∀ i, i < len0 → ∃ x : P2, (W.cell? (a.add (i * 2)) = some (.int .u8 x.a) ∧ W.cell? (a.add (i * 2 + 1)) = some (.int .u8 x.b)) ∧ OkP2 x := by
      intro i hil
      obtain ⟨cs', hc, ht'⟩ := hi i (by omega)
      rw [cPair] at hc
      obtain ⟨_, hcl, hat⟩ := World.cells?_some hc
      match cs', hcl with
      | [c0, c1], _ =>
        obtain ⟨_, _, _, t0, t1⟩ := trod_array2 Try.underlying66 cU8 ht'
        obtain ⟨z0, rfl, w0⟩ := open_field_int Try.underlying5 t0
        obtain ⟨z1, rfl, w1⟩ := open_field_int Try.underlying5 t1
        have q0 := bd_u8 w0
        have q1 := bd_u8 w1
        have f0 := hat 0 (by omega)
        have f1 := hat 1 (by omega)
        rw [Deep.add_add] at f0 f1
        exact ⟨⟨z0, z1⟩, ⟨f0, f1⟩, q0.1, q0.2, q1.1, q1.2⟩
    obtain ⟨f, hfn⟩ : ∃ f : Nat → P2, ∀ i, i < len0 → (W.cell? (a.add (i * 2)) = some (.int .u8 (f i).a) ∧ W.cell? (a.add (i * 2 + 1)) = some (.int .u8 (f i).b)) ∧ OkP2 (f i) := by
      refine ⟨fun i => if h : i < len0 then Classical.choose (each i h) else ⟨0, 0⟩, fun i hil => ?_⟩
      simp only [dif_pos hil]
      exact Classical.choose_spec (each i hil)
    refine ⟨some a, (List.range len0).map f, cap0, by simp, fun hne => ?_, fun x hx => ?_, by simp; unfold maxLen at hm; omega⟩
    · have hpos : 0 < len0 := by
        rcases Nat.eq_zero_or_pos len0 with h0 | h0
        · rw [h0] at hne
          simp at hne
        · exact h0
      have h0 := (hfn 0 hpos).1.1
      rw [Nat.zero_mul, addr_add_zero] at h0
      have hsp : a.spot = none := World.cell?_spot h0
      obtain ⟨b, o, s⟩ := a
      simp only at hsp
      subst hsp
      refine ⟨b, o, rfl, ?_, fun k x hx j u hu => ?_⟩
      · rcases Nat.lt_or_ge b W.heap.size with hlt | hge
        · exact hlt
        · simp [World.cell?, Array.getElem?_eq_none hge] at h0
      · have hk : k < len0 := by have := (List.getElem?_eq_some_iff.1 hx).1; simpa using this
        have hxf : x = f k := by simpa [hk] using hx.symm
        subst hxf
        obtain ⟨h1, h2⟩ := (hfn k hk).1
        rw [addr_add] at h1 h2
        rw [← Nat.add_assoc] at h2
        match j with
        | 0 => simp [P2.arr] at hu; subst hu; exact h1
        | 1 => simp [P2.arr] at hu; subst hu; exact h2
        | j + 2 => simp [P2.arr] at hu
    · obtain ⟨i, hi, rfl⟩ := List.mem_map.1 hx
      exact (hfn i (List.mem_range.1 hi)).2
end Go.Proofs.Ytfmkfmcplffhdaa
namespace Go.Proofs.Ytfmkfmcplffhdaa.liveTells
open Go.ChangeShapes Go.WideShapes Go.ChangeAt Go.RowKit
set_option linter.unusedVariables false      -- a walk need not use every 'w<i>' (that an integer argument fits its kind)

theorem own : ownKnob Try.prog.godebug = none := by kernel_rfl

/-! ### THE ROW's STEP: WRITTEN OUT: LEAVE IT -/
set_option maxRecDepth 100000 in
theorem lifted (os : Os) (started : os.Started) (H : Type) (enc : TypeId × Value → H) :
    ReturnsInHanded {} Try.checked os 3 .any (Rows.liveTellsSpec.pre6 enc Try.prog Try.f3 Rows.liveTellsRow.domain false) (Rows.liveTellsSpec.post enc Try.prog Try.f3 false true false false) := by
  refine returnsInHanded_of_change (C := Try.checked) own started (by kernel_rfl) Try.func3
    (ChangeSpec.witness6 (enc := enc) (C := Try.checked) false ⟨#[], #[.slice none 0 0, .slice none 0 0, .int .i8 0], []⟩ 8 (by kernel_rfl) (by kernel_rfl) (by kernel_rfl) (by kernel_rfl)) ?_
  intro W base args ds gs before hval0 hW hcnd _
  have hval : ∀ (j : Nat) t v, Try.f3.params[j]? = some t → args[j]? = some v → Value.okWide Try.prog W .any base t v := hval0
  have hW' := hW
  obtain ⟨p, q, hA0, hV, rfl, hfz, hnd⟩ := hW
  have hAk := hA0
  have hA : DataW.TrodAll enc Try.prog W 0 (fun _ => true) true Try.f3.params.toList args.toList ds p := hA0
  rw [Try.params3] at hA hval
  obtain ⟨rfl, rfl⟩ := trodVars_none hV
  clear hA0 hval0
  obtain ⟨v0, vs0, d0, ds0, p0, q0, ha0, rfl, rfl, h0, r0⟩ := trodAll_cons hA
  obtain ⟨v1, vs1, d1, ds1, p1, q1, ha1, rfl, rfl, h1, r1⟩ := trodAll_cons r0
  obtain ⟨v2, vs2, d2, ds2, p2, q2, ha2, rfl, rfl, h2, r2⟩ := trodAll_cons r1
  obtain ⟨rfl, rfl, rfl⟩ := trodAll_nil r2
  subst ha2
  obtain rfl : args = #[v0, v1, v2] := by cases args; simp_all
  obtain ⟨A, l, c, rfl, hd, hok, hl⟩ := open_raws (hval 0 _ v0 rfl rfl) h0
  obtain ⟨B, ps, cb, rfl, hdb, hob, hlb⟩ := open_pairs (hval 1 _ v1 rfl rfl) h1
  obtain ⟨n2, rfl⟩ := okWide_int Try.underlying24 (hval 2 _ v2 rfl rfl)
  obtain ⟨fuel2, hf2⟩ := h2
  obtain ⟨z2, hc2, _, hw2⟩ := DataW.trod_int Try.underlying24 hf2
  obtain rfl : n2 = z2 := by simpa [Value.cells] using hc2
  have hbd := bd_i8 hw2
  refine (tells_any W A l c B ps cb n2 hbd.1 hbd.2 hd hok hl hdb hob hlb).mono fun e W' he => ?_
  obtain ⟨rfl, hb⟩ := he
  exact ⟨_, rfl, post_true hW' laidOut (by kernel_rfl) hAk (fun x hx => List.mem_append_left _ hx) rfl (by kernel_rfl) Try.underlying4 rfl hb⟩

theorem over : Rows.liveTellsRow.holds Try.pinned (OpenSpec.ofChange Rows.liveTellsSpec) :=
  OpenClaim.holds_of_wide 3 Try.f3 rfl rfl rfl rfl rfl rfl rfl ⟨rfl, rfl, rfl, rfl, rfl⟩ rfl rfl rfl rfl rfl (by kernel_rfl) Try.func3 (by kernel_rfl)
    (of_decide_eq_true (by kernel_rfl)) (by unfold Func.isWrapper; first | (rw [if_pos (by decide +kernel)]; kernel_rfl) | (rw [if_neg (by decide +kernel)]; exact ⟨rfl, rfl⟩))
    (fun os started H enc _ => lifted os started H enc)

/-- ████ THE STATEMENT ████ -/
theorem proved : Rows.LiveTellsSaid :=
  over
#print axioms proved
end Go.Proofs.Ytfmkfmcplffhdaa.liveTells

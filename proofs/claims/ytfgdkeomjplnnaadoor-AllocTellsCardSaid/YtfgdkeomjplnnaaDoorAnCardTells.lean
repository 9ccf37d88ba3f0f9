/- AllocTells: of any spans, and homes, the program and the document say the same: the law returns true, for every input. Condition: the listed variables are as they are laid. -/
import Derived.Test.YtfgdkeomjplnnaaDoorAmDoor
import Derived.Test.YtfgdkeomjplnnaaDoorAnV
import Derived.Test.YtfgdkeomjplnnaaDoorAmA
namespace Go.Proofs.YtfgdkeomjplnnaaDoor
open Go.ChangeShapes Go.WideShapes Go.ChangeAt Go.RowKit Go.Deep
theorem cSpanT : Tryd.prog.cellsOf 32 = 3 := by kernel_rfl
set_option maxRecDepth 100000 in
theorem open_spans {H : Type} {enc : TypeId × Value → H} {W : World} {held : Bool} {r : Reach} {b0 : Nat} {v : Value} {d : DataW H} {p : List MemPlace}
    (hv : Value.okWide Tryd.prog W r b0 24 v) (h : DataW.Trod enc Tryd.prog W 0 (fun _ => true) held 24 v d p) :
    ∃ (A : Option Addr) (l : List Sp) (c : Nat), v = .slice A l.length c ∧ RepS W A l ∧ l.length ≤ 9223372036854775807 := by
  obtain ⟨a0, len0, cap0, rfl⟩ := okWide_slice Tryd.underlying24 hv
  obtain ⟨fuel, hf⟩ := h
  rcases open_slice Tryd.underlying24 hf with ⟨h0, _⟩ | ⟨a, len, cap, m, n, D, Pl, hcs, hb, hl, hm, hmm, hx, hi⟩
  · have h1 : a0 = none ∧ len0 = 0 ∧ cap0 = 0 := by simpa [Value.cells] using h0
    obtain ⟨rfl, rfl, rfl⟩ := h1
    exact ⟨none, [], 0, rfl, fun h => absurd rfl h, Nat.zero_le _⟩
  · have h1 : a0 = some a ∧ len0 = len ∧ cap0 = cap := by simpa [Value.cells] using hcs
    obtain ⟨rfl, rfl, rfl⟩ := h1
    have hmc : m = cap0 := by simpa using hmm
    have each : ∀ i, i < len0 → ∃ x : Sp, W.cell? (a.add (i * 3)) = some (.int .i64 x.v) ∧ W.cell? (a.add (i * 3 + 1)) = some (.int .i64 x.fr) ∧ W.cell? (a.add (i * 3 + 2)) = some (.int .i64 x.till) := by
      intro i hil
      obtain ⟨cs', hc, ht'⟩ := hi i (by omega)
      rw [cSpanT] at hc
      obtain ⟨_, hcl, hat⟩ := World.cells?_some hc
      match cs', hcl with
      | [c0, c1, c2], _ =>
        have hf := trod_fields Tryd.underlying32 (by kernel_rfl) (by rfl) ht'
        obtain ⟨_, _, _, e0, t0⟩ := hf 0 _ rfl
        obtain ⟨_, _, _, e1, t1⟩ := hf 1 _ rfl
        obtain ⟨_, _, _, e2, t2⟩ := hf 2 _ rfl
        obtain ⟨z0, rfl, w0⟩ := open_field_int Tryd.underlying3 t0
        obtain ⟨z1, rfl, w1⟩ := open_field_int Tryd.underlying3 t1
        obtain ⟨z2, rfl, w2⟩ := open_field_int Tryd.underlying3 t2
        simp at e0 e1 e2
        subst e0 e1 e2
        have f0 := hat 0 (by omega)
        have f1 := hat 1 (by omega)
        have f2 := hat 2 (by omega)
        rw [Deep.add_add] at f0 f1 f2
        exact ⟨⟨z0, z1, z2⟩, f0, f1, f2⟩
    obtain ⟨f, hfn⟩ : ∃ f : Nat → Sp, ∀ i, i < len0 → W.cell? (a.add (i * 3)) = some (.int .i64 (f i).v) ∧ W.cell? (a.add (i * 3 + 1)) = some (.int .i64 (f i).fr) ∧ W.cell? (a.add (i * 3 + 2)) = some (.int .i64 (f i).till) := by
      refine ⟨fun i => if h : i < len0 then Classical.choose (each i h) else ⟨0, 0, 0⟩, fun i hil => ?_⟩
      simp only [dif_pos hil]
      exact Classical.choose_spec (each i hil)
    refine ⟨some a, (List.range len0).map f, cap0, by simp, fun hne => ?_, by simp; unfold maxLen at hm; omega⟩
    · have hpos : 0 < len0 := by
        rcases Nat.eq_zero_or_pos len0 with h0 | h0
        · rw [h0] at hne
          simp at hne
        · exact h0
      have h0 := (hfn 0 hpos).1
      rw [Nat.zero_mul, addr_add_zero] at h0
      have hsp : a.spot = none := World.cell?_spot h0
      obtain ⟨b, o, s⟩ := a
      simp only at hsp
      subst hsp
      refine ⟨b, o, rfl, ?_, fun k x hx j u hu => ?_⟩
      · rcases Nat.lt_or_ge b W.heap.size with hlt | hge
        · exact hlt
        · simp [World.cell?, Array.getElem?_eq_none hge] at h0
      · have hk : k < len0 := by have := (List.getElem?_eq_some_iff.1 hx).1; simpa using this
        have hxf : x = f k := by simpa [hk] using hx.symm
        subst hxf
        obtain ⟨h1, h2, h3⟩ := hfn k hk
        rw [addr_add] at h1 h2 h3
        rw [← Nat.add_assoc] at h2 h3
        match j with
        | 0 => simp [Sp.arr] at hu; subst hu; exact h1
        | 1 => simp [Sp.arr] at hu; subst hu; exact h2
        | 2 => simp [Sp.arr] at hu; subst hu; exact h3
        | j + 3 => simp [Sp.arr] at hu
theorem cHomeT : Tryd.prog.cellsOf 30 = 2 := by kernel_rfl
set_option maxRecDepth 100000 in
theorem open_homes {H : Type} {enc : TypeId × Value → H} {W : World} {held : Bool} {r : Reach} {b0 : Nat} {v : Value} {d : DataW H} {p : List MemPlace}
    (hv : Value.okWide Tryd.prog W r b0 26 v) (h : DataW.Trod enc Tryd.prog W 0 (fun _ => true) held 26 v d p) :
    ∃ (A : Option Addr) (l : List Hm) (c : Nat), v = .slice A l.length c ∧ RepH W A l ∧ (∀ x ∈ l, (Lit.int .i64 x.n).wf = true) ∧ l.length ≤ c ∧ c ≤ 9223372036854775807 := by
  obtain ⟨a0, len0, cap0, rfl⟩ := okWide_slice Tryd.underlying26 hv
  obtain ⟨fuel, hf⟩ := h
  rcases open_slice Tryd.underlying26 hf with ⟨h0, _⟩ | ⟨a, len, cap, m, n, D, Pl, hcs, hb, hl, hm, hmm, hx, hi⟩
  · have h1 : a0 = none ∧ len0 = 0 ∧ cap0 = 0 := by simpa [Value.cells] using h0
    obtain ⟨rfl, rfl, rfl⟩ := h1
    exact ⟨none, [], 0, rfl, fun h => absurd rfl h, (fun x hx => by cases hx), Nat.le_refl _, Nat.zero_le _⟩
  · have h1 : a0 = some a ∧ len0 = len ∧ cap0 = cap := by simpa [Value.cells] using hcs
    obtain ⟨rfl, rfl, rfl⟩ := h1
    have hmc : m = cap0 := by simpa using hmm
    have each : ∀ i, i < len0 → ∃ x : Hm, (W.cell? (a.add (i * 2)) = some (.bool x.isSlot) ∧ W.cell? (a.add (i * 2 + 1)) = some (.int .i64 x.n)) ∧ (Lit.int .i64 x.n).wf = true := by
      intro i hil
      obtain ⟨cs', hc, ht'⟩ := hi i (by omega)
      rw [cHomeT] at hc
      obtain ⟨_, hcl, hat⟩ := World.cells?_some hc
      match cs', hcl with
      | [c0, c1], _ =>
        have hf := trod_fields Tryd.underlying30 (by kernel_rfl) (by rfl) ht'
        obtain ⟨_, _, _, e0, t0⟩ := hf 0 _ rfl
        obtain ⟨_, _, _, e1, t1⟩ := hf 1 _ rfl
        obtain ⟨z0, hz0, _⟩ := DataW.trod_bool Tryd.underlying4 t0
        obtain ⟨z1, rfl, w1⟩ := open_field_int Tryd.underlying3 t1
        simp at hz0
        subst hz0
        simp at e0 e1
        subst e0 e1
        have f0 := hat 0 (by omega)
        have f1 := hat 1 (by omega)
        rw [Deep.add_add] at f0 f1
        exact ⟨⟨z0, z1⟩, ⟨f0, f1⟩, w1⟩
    obtain ⟨f, hfn⟩ : ∃ f : Nat → Hm, ∀ i, i < len0 → (W.cell? (a.add (i * 2)) = some (.bool (f i).isSlot) ∧ W.cell? (a.add (i * 2 + 1)) = some (.int .i64 (f i).n)) ∧ (Lit.int .i64 (f i).n).wf = true := by
      refine ⟨fun i => if h : i < len0 then Classical.choose (each i h) else ⟨false, 0⟩, fun i hil => ?_⟩
      simp only [dif_pos hil]
      exact Classical.choose_spec (each i hil)
    refine ⟨some a, (List.range len0).map f, cap0, by simp, fun hne => ?_, fun x hx => ?_, by simp; omega, by unfold maxLen at hm; omega⟩
    · have hpos : 0 < len0 := by
        rcases Nat.eq_zero_or_pos len0 with h0 | h0
        · rw [h0] at hne
          simp at hne
        · exact h0
      have h0 := (hfn 0 hpos).1.1
      rw [Nat.zero_mul, addr_add_zero] at h0
      have hsp : a.spot = none := World.cell?_spot h0
      obtain ⟨b, o, s⟩ := a
      simp only at hsp
      subst hsp
      refine ⟨b, o, rfl, ?_, fun k x hx => ?_⟩
      · rcases Nat.lt_or_ge b W.heap.size with hlt | hge
        · exact hlt
        · simp [World.cell?, Array.getElem?_eq_none hge] at h0
      · have hk : k < len0 := by have := (List.getElem?_eq_some_iff.1 hx).1; simpa using this
        have hxf : x = f k := by simpa [hk] using hx.symm
        subst hxf
        obtain ⟨h1, h2⟩ := (hfn k hk).1
        rw [addr_add] at h1 h2
        rw [← Nat.add_assoc] at h2
        exact ⟨h1, h2⟩
    · obtain ⟨i, hi, rfl⟩ := List.mem_map.1 hx
      exact (hfn i (List.mem_range.1 hi)).2
end Go.Proofs.YtfgdkeomjplnnaaDoor
namespace Go.Proofs.YtfgdkeomjplnnaaDoor.allocTells
open Go.ChangeShapes Go.WideShapes Go.ChangeAt Go.RowKit

set_option maxRecDepth 100000 in
theorem contract (H : Type) (enc : TypeId × Value → H) (W : World) (base : Nat) (args : Array Value) (ds gs : List (DataW H)) (before : List MemPlace)
    (hval : ∀ (j : Nat) t v, Tryd.f5.params[j]? = some t → args[j]? = some v → Value.okWide Tryd.prog W .any base t v)
    (hW : DataW.Whole enc Tryd.prog Tryd.f5.params.toList Rows.allocTellsSpec.vars false W args.toList ds gs before) (hL : laidMetH Tryd.prog Rows.allocTellsRow.laid W) :
    Calls Tryd.prog 5 args W fun e W' => ∃ v, e = .returned v ∧ Rows.allocTellsSpec.post enc Tryd.prog Tryd.f5 false true false false W args v W' := by
  obtain ⟨hT, hT2⟩ := tabs_of hL
  have hW' := hW
  obtain ⟨p, q, hA0, hV, rfl, hfz, hnd⟩ := hW
  have hAk := hA0
  have hA : DataW.TrodAll enc Tryd.prog W 0 (fun _ => true) true Tryd.f5.params.toList args.toList ds p := hA0
  rw [Tryd.params5] at hA hval
  obtain ⟨rfl, rfl⟩ := trodVars_none hV
  clear hA0
  have hA1 := hA
  obtain ⟨v0, vs0, d0, ds0, p0, q0, ha0, rfl, rfl, h0, r0⟩ := trodAll_cons hA1
  obtain ⟨v1, vs1, d1, ds1, p1, q1, ha1, rfl, rfl, h1, r1⟩ := trodAll_cons r0
  obtain ⟨v2, vs2, d2, ds2, p2, q2, ha2, rfl, rfl, h2, r2⟩ := trodAll_cons r1
  obtain ⟨rfl, rfl, rfl⟩ := trodAll_nil r2
  subst ha2
  subst ha1
  obtain rfl : args = #[v0, v1, v2] := by cases args; simp_all
  obtain ⟨A0, raw, c0, rfl, hs0, hl0⟩ := open_spans (hval 0 _ v0 rfl rfl) h0
  obtain ⟨A1, l, c1, rfl, hd, hok, hl⟩ := open_drafts (hval 1 _ v1 rfl rfl) h1
  obtain ⟨Ah, hm, ch, rfl, hh, hwf, hc1, hc2⟩ := open_homes (hval 2 _ v2 rfl rfl) h2
  refine (allocTells_any W A0 A1 Ah raw l hm c0 c1 ch hs0 hl0 hd hok hl hh hc1 hc2 hwf hT hT2).mono fun e W' he => ?_
  obtain ⟨rfl, hb⟩ := he
  exact ⟨_, rfl, post_true hW' laidOut (by kernel_rfl) hAk (fun x hx => List.mem_append_left _ hx) rfl (by kernel_rfl) Tryd.underlying4 rfl hb⟩

theorem reads (os : Os) {H : Type} (enc : TypeId × Value → H) : ∃ places, DataW.whole enc Tryd.prog ((laidWorld os).forCall (fun _ _ => 0) ⟨#[], #[.slice none 0 0, .slice none 0 0, .slice none 0 0], []⟩).memory Tryd.f5.params.toList Rows.allocTellsSpec.vars false (#[.slice none 0 0, .slice none 0 0, .slice none 0 0] : Array Value).toList 8 = some ([.nil, .nil, .nil], [], places) :=
  ⟨[], by kernel_rfl⟩
set_option maxRecDepth 100000 in
theorem lifted (os : Os) (started : os.Started) (H : Type) (enc : TypeId × Value → H) (F : Stop.Interp) :
    ReturnsInHanded {} Tryd.checked os 5 .any ((OpenSpec.ofChange Rows.allocTellsSpec).preRow enc Tryd.prog Tryd.f5 Rows.allocTellsRow.domain false Rows.allocTellsRow.laid) (((OpenSpec.ofChange Rows.allocTellsSpec).at F).post enc Tryd.prog Tryd.f5 false true false false) := by
  obtain ⟨places, hx⟩ := reads os enc
  refine returnsInHanded_of_row (C := Tryd.checked) (s := OpenSpec.ofChange Rows.allocTellsSpec) own started (by kernel_rfl) Tryd.func5
    (witness_row_atRef (enc := enc) (C := Tryd.checked) false (laidWorld os) (#[.slice none 0 0, .slice none 0 0, .slice none 0 0]) rfl (by kernel_rfl) (by kernel_rfl) (by kernel_rfl)
      (OpenSpec.preRow_of_cond 8 hx (by kernel_rfl) (fun k hk => by cases hk) (by kernel_rfl) (laid_met os _))) ?_
  intro W base args ds gs before hval hW _ _ _ hL _ _
  exact contract H enc W base args ds gs before hval hW hL

theorem said : Rows.AllocTellsSaid :=
  OpenClaim.holds_of_cond 5 Tryd.f5 rfl rfl rfl rfl rfl rfl rfl ⟨rfl, rfl, rfl, rfl, rfl⟩ rfl rfl rfl rfl rfl (by kernel_rfl) Tryd.func5 (by kernel_rfl)
    (of_decide_eq_true (by kernel_rfl)) (by unfold Func.isWrapper; first | (rw [if_pos (by decide +kernel)]; kernel_rfl) | (rw [if_neg (by decide +kernel)]; exact ⟨rfl, rfl⟩))
    (fun os started H enc _ F => by rw [OpenClaim.pre_eq_preRow]; exact lifted os started H enc F)

theorem named : Tryd.prog.funcNamed Rows.allocTellsRow.func = some 5 := by kernel_rfl
/-- No parameter wants a stand-in; the program's own looks are off: what the card asks. -/
theorem plain (f : FuncId) (fn : Func) (hf : Tryd.pinned.checked.prog.funcNamed Rows.allocTellsRow.func = some f) (hfn : Tryd.pinned.checked.prog.funcs[f]? = some fn) :
    true = Tryd.pinned.checked.prog.looks [] ∧ ∀ (j : Nat) t, fn.params[j]? = some t → Tryd.pinned.checked.prog.wantsStandIn t = false := by
  obtain rfl : f = 5 := Option.some.inj (named.symm.trans hf) |>.symm
  obtain rfl : fn = Tryd.f5 := (Option.some.inj (Tryd.func5.symm.trans hfn)).symm
  refine ⟨by kernel_rfl, fun j t ht => ?_⟩
  have hall : (Tryd.f5.params.toList.all fun t => !(Tryd.prog.wantsStandIn t)) = true := by kernel_rfl
  have := List.all_eq_true.1 hall t (by simpa using Array.mem_of_getElem? ht)
  have h2 : Tryd.prog.wantsStandIn t = false := by simpa using this
  exact h2

/-- ████ THE CARD ████ -/
theorem card : Rows.AllocTellsCardSaid :=
  Claim7.holds_tied_plain_at .later [] _ _ _ _ said (fun _ h => by cases h) (by kernel_rfl) (fun _ h => by cases h) allocTells_row_tie rfl ⟨rfl, rfl⟩ (by kernel_rfl) rfl plain (by kernel_rfl)
#print axioms card
end Go.Proofs.YtfgdkeomjplnnaaDoor.allocTells

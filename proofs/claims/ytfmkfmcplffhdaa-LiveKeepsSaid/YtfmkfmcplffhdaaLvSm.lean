/- The numbers in the instructions that are made of steps are small. Plain; no condition. -/
import Derived.Test.YtfmkfmcplffhdaaLvX
namespace Go.Proofs.Ytfmkfmcplffhdaa
set_option linter.unusedVariables false

def Sm (x : I9) : Prop := 0 ≤ x.d ∧ x.d ≤ 1000 ∧ 0 ≤ x.a ∧ x.a ≤ 1000 ∧ 0 ≤ x.b ∧ x.b ≤ 1000
theorem sm_stop (i : Nat) : Sm (stopI i) := by
  show 0 ≤ (0 : Int) ∧ (0 : Int) ≤ 1000 ∧ 0 ≤ (0 : Int) ∧ (0 : Int) ≤ 1000 ∧ 0 ≤ (0 : Int) ∧ (0 : Int) ≤ 1000
  omega
theorem sm_const {d : Int} (h0 : 0 ≤ d) (h1 : d ≤ 1000) (o : Int) (i : Nat) : Sm (constI d o i) := by
  show 0 ≤ d ∧ d ≤ 1000 ∧ 0 ≤ (0 : Int) ∧ (0 : Int) ≤ 1000 ∧ 0 ≤ (0 : Int) ∧ (0 : Int) ≤ 1000
  omega
theorem sm_bin {d a b : Int} (h0 : 0 ≤ d) (h1 : d ≤ 1000) (a0 : 0 ≤ a) (a1 : a ≤ 1000) (b0 : 0 ≤ b) (b1 : b ≤ 1000) (i : Nat) : Sm (binI d a b i) := ⟨h0, h1, a0, a1, b0, b1⟩
theorem sm_move {d a : Int} (h0 : 0 ≤ d) (h1 : d ≤ 1000) (a0 : 0 ≤ a) (a1 : a ≤ 1000) (i : Nat) : Sm (moveI d a i) := by
  show 0 ≤ d ∧ d ≤ 1000 ∧ 0 ≤ a ∧ a ≤ 1000 ∧ 0 ≤ (0 : Int) ∧ (0 : Int) ≤ 1000
  omega
theorem sm_out {a : Int} (a0 : 0 ≤ a) (a1 : a ≤ 1000) (i : Nat) : Sm (outI a i) := by
  show 0 ≤ (0 : Int) ∧ (0 : Int) ≤ 1000 ∧ 0 ≤ a ∧ a ≤ 1000 ∧ 0 ≤ (0 : Int) ∧ (0 : Int) ≤ 1000
  omega
section
variable {M : Int} {i : Nat} {c : CodeS} {next v : Int} {r : OpsS}
theorem Inv.lt (h : Inv M i c next) (hv : Known M c next v) : 0 ≤ v ∧ v < next := by
  refine ⟨h.pos hv, ?_⟩
  have hm := h.many
  rcases hv with hv | ⟨_, h2, _⟩
  · have := (h.opn v hv).2.1
    omega
  · exact h2
theorem sm_snoc {l : List I9} {x : I9} (h : ∀ y ∈ l, Sm y) (hx : Sm x) : ∀ y ∈ l ++ [x], Sm y := fun y hy => by
  rcases List.mem_append.1 hy with hy | hy
  · exact h y hy
  · simp only [List.mem_singleton] at hy
    rw [hy]
    exact hx
theorem Inv.ops_sm (h : Inv M i { c with l := r.l } r.next) (hl : Known M { c with l := r.l } r.next r.last) (ho : 0 < c.opn.length) (hs : ∀ y ∈ r.l, Sm y) (hn : r.next ≤ 999) (k o : Nat) : ∀ y ∈ (opS i c.opn r k o).l, Sm y := by
  have h0 := h.next0
  obtain ⟨l0, l1⟩ := h.lt hl
  unfold opS
  split
  · refine sm_snoc ?_ (sm_const h0 (by omega) _ _)
    split
    · exact sm_snoc hs (sm_out l0 (by omega) _)
    · exact hs
  · obtain ⟨o0, o1⟩ := h.lt (v := pickO c.opn (o / 4)) (.inl (pickO_mem ho _))
    exact sm_snoc hs (sm_bin h0 (by omega) l0 (by omega) o0 (by omega) _)
theorem Inv.opsAll_sm (h : Inv M i { c with l := r.l } r.next) (hl : Known M { c with l := r.l } r.next r.last) (ho : 0 < c.opn.length) (hs : ∀ y ∈ r.l, Sm y) (ops : List Nat) : ∀ k : Nat, r.next + (k : Int) ≤ 999 → ∀ y ∈ (opsTo i c.opn r ops k).l, Sm y
  | 0, _ => hs
  | k + 1, hk => by
    obtain ⟨h1, h2⟩ := Inv.opsAll h hl ho ops k
    have hn := (opsTo_len i c.opn r ops k).2
    exact h1.ops_sm h2 ho (Inv.opsAll_sm h hl ho hs ops k (by omega)) (by omega) _ _
theorem Inv.step_sm {st : MadeS} (h : Inv M i st.c st.next) (hs : ∀ x ∈ st.c.l, Sm x) (s : StepD) (hn : st.next ≤ 900) : ∀ x ∈ (stepS st i s).c.l, Sm x := by
  have ho : 0 < st.c.opn.length := List.length_pos_of_mem h.two.1
  have h1 := h.push (x := stopI i) rfl (fun v hv => by rw [reads_stop] at hv; cases hv) (.inl ⟨by rw [makes_stop]; omega, rfl⟩)
  have hk : Known M { st.c with l := st.c.l ++ [stopI i] } st.next (pickO st.c.opn s.set) := .inl (pickO_mem ho _)
  have h6 : min s.ops.length 6 ≤ 6 := Nat.min_le_right _ _
  obtain ⟨h2, h3⟩ := Inv.opsAll (r := ⟨st.c.l ++ [stopI i], pickO st.c.opn s.set, st.next⟩) h1 hk ho s.ops (min s.ops.length 6)
  have h4 := Inv.opsAll_sm (r := ⟨st.c.l ++ [stopI i], pickO st.c.opn s.set, st.next⟩) h1 hk ho (sm_snoc hs (sm_stop i)) s.ops (min s.ops.length 6) (by show st.next + _ ≤ 999; omega)
  have h5 := (opsTo_len i st.c.opn ⟨st.c.l ++ [stopI i], pickO st.c.opn s.set, st.next⟩ s.ops (min s.ops.length 6)).2
  unfold stepS
  generalize opsTo i st.c.opn ⟨st.c.l ++ [stopI i], pickO st.c.opn s.set, st.next⟩ s.ops (min s.ops.length 6) = r at *
  simp only at h5
  obtain ⟨l0, l1⟩ := h2.lt h3
  have hm := h.many
  show ∀ x ∈ (endsB (endsA { st.c with l := r.l } s i r.last) s i).l, Sm x
  have hA : ∀ x ∈ (endsA { st.c with l := r.l } s i r.last).l, Sm x := by
    unfold endsA
    split
    · exact sm_snoc h4 (sm_move (by show 0 ≤ (st.c.lo.length : Int); omega) (by show (st.c.lo.length : Int) ≤ 1000; omega) l0 (by omega) _)
    split
    · obtain ⟨o0, o1⟩ := h.lt (v := pickO st.c.opn (s.set / 16)) (.inl (pickO_mem ho _))
      exact sm_snoc h4 (sm_move o0 (by show pickO st.c.opn (s.set / 16) ≤ 1000; omega) l0 (by omega) _)
    · exact sm_snoc h4 (sm_out l0 (by omega) _)
  unfold endsB
  split <;> exact hA
end
theorem sm_steps (s : List StepD) (n : Nat) (hn : n ≤ 20) : ∀ i, i ≤ n → ∀ x ∈ (stepsTo s ⟨code0, manyTo s n⟩ i).c.l, Sm x
  | 0, _ => by simp [stepsTo, code0]
  | i + 1, hi => by
    obtain ⟨h1, _⟩ := inv_steps s n i (by omega)
    have hm := many_le s n
    have h2 := next_steps s (manyTo s n) (by omega) i
    exact h1.step_sm (sm_steps s n hn i (by omega)) _ (by omega)
theorem sm_made (s : List StepD) : ∀ x ∈ (madeS s).l, Sm x := sm_steps s (madeN s) (Nat.min_le_right _ _) (madeN s) (Nat.le_refl _)
theorem wf_int {v : Int} (h0 : 0 ≤ v) (h1 : v ≤ 100000) : (Lit.int .i64 v).wf = true := by
  have e : IntKind.i64.min = -9223372036854775808 := by decide
  simp [Lit.wf]
  omega
theorem wf_made (s : List StepD) : ∀ x ∈ (madeS s).l, WfI x := fun x hx => by
  obtain ⟨d0, d1, a0, a1, b0, b1⟩ := sm_made s x hx
  exact ⟨wf_int d0 (by omega), wf_int a0 (by omega), wf_int b0 (by omega)⟩
end Go.Proofs.Ytfmkfmcplffhdaa

/- What holds of code that is made of steps: all of it. Plain; no condition. -/
import Derived.Test.YtfmkfmcplffhdaaLvV
namespace Go.Proofs.Ytfmkfmcplffhdaa
set_option linter.unusedVariables false
section
variable {M : Int} {i : Nat} {c : CodeS} {next next' v last : Int}
theorem last_of {l : List Int} (h : l.Pairwise (· < ·)) (hl : 2 < l.length) (h0 : l[0]? = some 0) (h1 : l[1]? = some 1) : ∃ v, l.getD (l.length - 1) 0 = v ∧ v ∈ l ∧ 2 ≤ v ∧ (∀ u ∈ l, u ∈ l.take (l.length - 1) ∨ u = v) ∧ v ∉ l.take (l.length - 1) := by
  have hlt : l.length - 1 < l.length := by omega
  refine ⟨l[l.length - 1], by rw [List.getD, List.getElem?_eq_getElem hlt]; rfl, List.getElem_mem _, ?_, fun u hu => ?_, fun hm => ?_⟩
  · have h2 := List.pairwise_iff_getElem.1 h 1 (l.length - 1) (by omega) hlt (by omega)
    rw [List.getElem?_eq_getElem (by omega)] at h1
    have h3 := Option.some.inj h1
    omega
  · obtain ⟨p, hp, rfl⟩ := List.mem_iff_getElem.1 hu
    by_cases he : p = l.length - 1
    · subst he
      exact .inr rfl
    · exact .inl (List.mem_iff_getElem.2 ⟨p, by rw [List.length_take]; omega, by simp⟩)
  · obtain ⟨p, hp, he⟩ := List.mem_iff_getElem.1 hm
    rw [List.length_take] at hp
    rw [List.getElem_take] at he
    have h2 := List.pairwise_iff_getElem.1 h p (l.length - 1) (by omega) hlt (by omega)
    omega
/-- A block ends: what was declared last goes out of scope. -/
theorem Inv.close (h : Inv M (i + 1) c next) (hs : ∀ x ∈ c.l, x.step < (i : Int) + 1) (hl : 2 < c.opn.length) :
    Inv M (i + 1) { c with lo := setTill c.lo (c.opn.getD (c.opn.length - 1) 0) ((i : Int) + 1), opn := c.opn.take (c.opn.length - 1) } next := by
  obtain ⟨t1, t2, t3, t4⟩ := h.two
  obtain ⟨w, hw, hm, h2, hall, hnot⟩ := last_of h.inc hl t3 t4
  rw [hw]
  obtain ⟨w0, wl, wf⟩ := h.opn w hm
  have hsub : ∀ u ∈ c.opn.take (c.opn.length - 1), u ∈ c.opn := fun u hu => List.mem_of_mem_take hu
  have hlen : ((setTill c.lo w ((i : Int) + 1)).length : Int) = (c.lo.length : Int) := by rw [setTill_length]
  have hat : ∀ u : Int, 0 ≤ u → u < (c.lo.length : Int) → loAt (setTill c.lo w ((i : Int) + 1)) u = if w = u then { loAt c.lo u with till := (i : Int) + 1 } else loAt c.lo u := fun u u0 ul => loAt_set w0 u0 ul
  have hfr : ∀ u : Int, 0 ≤ u → u < (c.lo.length : Int) → (loAt (setTill c.lo w ((i : Int) + 1)) u).fr = (loAt c.lo u).fr := fun u u0 ul => by
    rw [hat u u0 ul]
    split <;> rfl
  have htl : ∀ u : Int, 0 ≤ u → u < (c.lo.length : Int) → u ≠ w → (loAt (setTill c.lo w ((i : Int) + 1)) u).till = (loAt c.lo u).till := fun u u0 ul hne => by
    rw [hat u u0 ul, if_neg (fun e => hne e.symm)]
  have htw : (loAt (setTill c.lo w ((i : Int) + 1)) w).till = (i : Int) + 1 := by rw [hat w w0 wl, if_pos rfl]
  have hn : ∀ u, u ∉ c.opn.take (c.opn.length - 1) → u ≠ w → u ∉ c.opn := fun u h1 h2 h3 => (hall u h3).elim h1 h2
  have hin : ∀ (k : Nat) (u : Int), k < 2 → c.opn[k]? = some u → u ∈ c.opn.take (c.opn.length - 1) ∧ (c.opn.take (c.opn.length - 1))[k]? = some u := fun k u hk hu => by
    have : (c.opn.take (c.opn.length - 1))[k]? = some u := by
      rw [List.getElem?_take, if_pos (by omega)]
      exact hu
    exact ⟨List.mem_of_getElem? this, this⟩
  refine ⟨h.mono, h.steps, ⟨(hin 0 0 (by omega) t3).1, (hin 1 1 (by omega) t4).1, (hin 0 0 (by omega) t3).2, (hin 1 1 (by omega) t4).2⟩, h.inc.sublist (List.take_sublist _ _), ?_, ?_, ?_, ?_, ?_, ?_, ?_, h.once⟩
  · intro u hu
    obtain ⟨o1, o2, o3⟩ := h.opn u (hsub u hu)
    exact ⟨o1, by rw [hlen]; exact o2, by rw [hfr u o1 o2]; exact o3⟩
  · intro u u0 u2
    have := h.many
    rw [hfr u u0 (by omega)]
    exact h.first u u0 u2
  · intro u u2 ul hno
    rw [hlen] at ul
    rw [hfr u (by omega) ul]
    by_cases he : u = w
    · subst he
      rw [htw]
      simpa using wf
    · rw [htl u (by omega) ul he]
      exact h.shut u u2 ul (hn u hno he)
  · intro u u2 ul
    rw [hlen] at ul
    rw [hfr u (by omega) ul]
    exact h.decl u u2 ul
  · rw [hlen]
    exact h.many
  · intro p a ha v hv
    rw [hlen]
    rcases h.reads p a ha v hv with ⟨r1, r2, r3, r4⟩ | h1
    · refine .inl ⟨r1, r2, fun v2 => by rw [hfr v r1 r2]; exact r3 v2, fun hno => ?_⟩
      by_cases he : v = w
      · subst he
        rw [htw]
        exact hs a (List.mem_of_getElem? ha)
      · rw [htl v r1 r2 he]
        exact r4 (hn v hno he)
    · exact .inr h1
  · intro a ha h0
    rw [hlen]
    rcases h.makes a ha h0 with ⟨m1, m2, m3⟩ | h1
    · refine .inl ⟨m1, fun v2 => by rw [hfr _ h0 m1]; exact m2 v2, fun hno => ?_⟩
      by_cases he : makesL a = w
      · rw [he, htw]
        exact hs a ha
      · rw [htl _ h0 m1 he]
        exact m3 (hn _ hno he)
    · exact .inr h1
/-- A step. -/
theorem Inv.step {st : MadeS} (h : Inv M i st.c st.next) (hs : ∀ x ∈ st.c.l, x.step < (i : Int)) (s : StepD) (hM : (st.c.lo.length : Int) + (if s.kind % 4 = 0 then 1 else 0) ≤ M) :
    Inv M (i + 1) (stepS st i s).c (stepS st i s).next ∧ ∀ x ∈ (stepS st i s).c.l, x.step < (i : Int) + 1 := by
  have ho : 0 < st.c.opn.length := by
    have := h.two.1
    exact List.length_pos_of_mem this
  have h1 := h.push (x := stopI i) rfl (fun v hv => by rw [reads_stop] at hv; cases hv) (.inl ⟨by rw [makes_stop]; omega, rfl⟩)
  have hk : Known M { st.c with l := st.c.l ++ [stopI i] } st.next (pickO st.c.opn s.set) := .inl (pickO_mem ho _)
  obtain ⟨h2, h3⟩ := Inv.opsAll (r := ⟨st.c.l ++ [stopI i], pickO st.c.opn s.set, st.next⟩) h1 hk ho s.ops (min s.ops.length 6)
  unfold stepS
  generalize opsTo i st.c.opn ⟨st.c.l ++ [stopI i], pickO st.c.opn s.set, st.next⟩ s.ops (min s.ops.length 6) = r at *
  have hp := h2.pos h3
  show Inv M (i + 1) (endsB (endsA { st.c with l := r.l } s i r.last) s i) r.next ∧ ∀ x ∈ (endsB (endsA { st.c with l := r.l } s i r.last) s i).l, x.step < (i : Int) + 1
  have hA : Inv M (i + 1) (endsA { st.c with l := r.l } s i r.last) r.next ∧ ∀ x ∈ (endsA { st.c with l := r.l } s i r.last).l, x.step < (i : Int) + 1 := by
    unfold endsA
    split
    · rename_i h4
      rw [if_pos h4] at hM
      refine ⟨h2.declare h3 hM, fun x hx => ?_⟩
      rcases List.mem_append.1 hx with hx | hx
      · have := h2.steps x hx
        omega
      · simp only [List.mem_singleton] at hx
        subst hx
        show (i : Int) < _
        omega
    split
    · have hq : pickO st.c.opn (s.set / 16) ∈ st.c.opn := pickO_mem ho _
      have hq0 : 0 ≤ pickO st.c.opn (s.set / 16) := (h.opn _ hq).1
      have h5 := h2.push (x := moveI (pickO st.c.opn (s.set / 16)) r.last i) rfl (fun v hv => by rw [reads_move hp] at hv; simp only [List.mem_singleton] at hv; subst hv; exact h3) (.inr (.inl ⟨by rw [makes_move hq0]; exact hq, rfl⟩))
      exact ⟨h5.up (Nat.le_succ i), fun x hx => by have := h5.steps x hx; omega⟩
    · have h5 := h2.push (x := outI r.last i) rfl (fun v hv => by rw [reads_out hp] at hv; simp only [List.mem_singleton] at hv; subst hv; exact h3) (.inl ⟨by rw [makes_out]; omega, rfl⟩)
      exact ⟨h5.up (Nat.le_succ i), fun x hx => by have := h5.steps x hx; omega⟩
  generalize endsA { st.c with l := r.l } s i r.last = d at *
  unfold endsB
  split
  · rename_i hc
    exact ⟨hA.1.close hA.2 hc.2, hA.2⟩
  · exact hA
end
theorem lo_steps (s : List StepD) (m : Int) : ∀ i, (((stepsTo s ⟨code0, m⟩ i).c.lo.length : Nat) : Int) = manyTo s i
  | 0 => rfl
  | i + 1 => by
    have ih := lo_steps s m i
    unfold manyTo
    show (((stepS (stepsTo s ⟨code0, m⟩ i) i (s.getD i ⟨0, 0, []⟩)).c.lo.length : Nat) : Int) = _
    generalize s.getD i ⟨0, 0, []⟩ = x at *
    generalize stepsTo s ⟨code0, m⟩ i = st at *
    have hB : ∀ d : CodeS, (endsB d x i).lo.length = d.lo.length := fun d => by
      unfold endsB
      split
      · exact setTill_length _ _ _
      · rfl
    unfold stepS endsS
    simp only [hB]
    unfold endsA
    split
    · simp
      omega
    split <;> exact ih
theorem many_succ (s : List StepD) (i : Nat) : manyTo s (i + 1) = if (s.getD i ⟨0, 0, []⟩).kind % 4 = 0 then manyTo s i + 1 else manyTo s i := rfl
theorem many_mono (s : List StepD) : ∀ k i : Nat, manyTo s i ≤ manyTo s (i + k)
  | 0, i => Int.le_refl _
  | k + 1, i => by
    have := many_mono s k i
    show _ ≤ manyTo s (i + k + 1)
    rw [many_succ]
    split <;> omega
theorem inv_code0 (m : Int) (hm : 2 ≤ m) : Inv m 0 code0 m := by
  refine ⟨by decide, by simp [code0], by decide, by decide, by decide, ?_, ?_, ?_, ?_, ?_, ?_, ?_⟩
  · intro v v0 v2
    have : v = 0 ∨ v = 1 := by omega
    rcases this with rfl | rfl <;> rfl
  · intro v v2 vl _
    simp [code0] at vl
    omega
  · intro v v2 vl
    simp [code0] at vl
    omega
  · simp [code0]
    omega
  · intro p x hx
    simp [code0] at hx
  · intro x hx
    simp [code0] at hx
  · intro p q x y hx
    simp [code0] at hx
theorem inv_steps (s : List StepD) (n : Nat) : ∀ i, i ≤ n → Inv (manyTo s n) i (stepsTo s ⟨code0, manyTo s n⟩ i).c (stepsTo s ⟨code0, manyTo s n⟩ i).next ∧ ∀ x ∈ (stepsTo s ⟨code0, manyTo s n⟩ i).c.l, x.step < (i : Int)
  | 0, _ => ⟨inv_code0 _ (many_le s n).1, by simp [stepsTo, code0]⟩
  | i + 1, hi => by
    obtain ⟨h1, h2⟩ := inv_steps s n i (by omega)
    have h3 := lo_steps s (manyTo s n) i
    have h4 : manyTo s (i + 1) ≤ manyTo s n := by
      have := many_mono s (n - (i + 1)) (i + 1)
      rwa [show i + 1 + (n - (i + 1)) = n by omega] at this
    refine h1.step h2 _ ?_
    rw [h3]
    rw [many_succ] at h4
    split at h4 <;> rename_i h5
    · rw [if_pos h5]; exact h4
    · rw [if_neg h5]; omega
end Go.Proofs.Ytfmkfmcplffhdaa

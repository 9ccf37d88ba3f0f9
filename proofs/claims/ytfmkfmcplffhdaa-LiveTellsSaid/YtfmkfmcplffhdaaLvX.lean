/- Code whose values are made before they are read: what is known of touches and spans. Plain; no condition. -/
import Derived.Test.YtfmkfmcplffhdaaLvW
namespace Go.Proofs.Ytfmkfmcplffhdaa
set_option linter.unusedVariables false

/-- Code as it is made of steps. -/
structure Good (l : List I9) (xs : List Lo4) : Prop where
  mono : l.Pairwise (fun x y => x.step ≤ y.step)
  two : 2 ≤ xs.length
  locR : ∀ x ∈ l, ∀ v ∈ readsL x, v < (xs.length : Int) → 0 ≤ v ∧ (2 ≤ v → (loAt xs v).fr ≤ x.step) ∧ x.step < (loAt xs v).till
  locM : ∀ x ∈ l, 0 ≤ makesL x → makesL x < (xs.length : Int) → (2 ≤ makesL x → (loAt xs (makesL x)).fr - 1 ≤ x.step) ∧ x.step < (loAt xs (makesL x)).till
  decl : ∀ v : Int, 2 ≤ v → v < (xs.length : Int) → (loAt xs v).fr ≤ (loAt xs v).till ∧ ∃ x ∈ l, makesL x = v ∧ x.step = (loAt xs v).fr - 1
  tmpR : ∀ (p : Nat) (x : I9), l[p]? = some x → ∀ v ∈ readsL x, (xs.length : Int) ≤ v → ∃ (q : Nat) (y : I9), q < p ∧ l[q]? = some y ∧ makesL y = v
  once : ∀ (p q : Nat) (x y : I9), l[p]? = some x → l[q]? = some y → makesL x = makesL y → (xs.length : Int) ≤ makesL x → p = q
  frs : ∀ x ∈ xs, 0 ≤ x.fr ∧ x.fr ≤ 1000
theorem loAt_shut (lo : List Lo4) (opn : List Int) (n : Int) (h : ∀ v ∈ opn, 0 ≤ v ∧ v < (lo.length : Int)) : ∀ k, k ≤ opn.length → ∀ u : Int, 0 ≤ u → u < (lo.length : Int) →
    loAt (shutTo lo opn n k) u = if u ∈ opn.take k then { loAt lo u with till := n } else loAt lo u
  | 0, _, u, _, _ => by simp [shutTo]
  | k + 1, hk, u, u0, ul => by
    have hv := h opn[k] (List.getElem_mem _)
    have ih := loAt_shut lo opn n h k (by omega) u u0 ul
    have hg : opn.getD k 0 = opn[k] := by rw [List.getD, List.getElem?_eq_getElem (by omega)]; rfl
    have ht : opn.take (k + 1) = opn.take k ++ [opn[k]] := take_snoc' (List.getElem?_eq_getElem (by omega))
    have hlen : ∀ j, (shutTo lo opn n j).length = lo.length := fun j => by
      induction j with
      | zero => rfl
      | succ j ihj => rw [shutTo, setTill_length, ihj]
    have hmem : u ∈ opn.take (k + 1) ↔ u ∈ opn.take k ∨ u = opn[k] := by
      rw [ht, List.mem_append, List.mem_singleton]
    rw [shutTo, hg, loAt_set hv.1 u0 (by rw [hlen]; exact ul), ih]
    clear ht hg
    by_cases h1 : opn[k] = u
    · rw [if_pos h1, if_pos (hmem.2 (.inr h1.symm))]
      split <;> rfl
    · rw [if_neg h1]
      by_cases h2 : u ∈ opn.take k
      · rw [if_pos h2, if_pos (hmem.2 (.inl h2))]
      · rw [if_neg h2, if_neg (fun h3 => (hmem.1 h3).elim h2 (fun e => h1 e.symm))]
theorem good_made (s : List StepD) : Good (madeS s).l (madeS s).lo := by
  obtain ⟨h, hs⟩ := inv_steps s (madeN s) (madeN s) (Nat.le_refl _)
  have hl := lo_steps s (manyTo s (madeN s)) (madeN s)
  have hn20 : madeN s ≤ 20 := Nat.min_le_right _ _
  unfold madeS madeM
  generalize (stepsTo s ⟨code0, manyTo s (madeN s)⟩ (madeN s)).next = next at *
  generalize (stepsTo s ⟨code0, manyTo s (madeN s)⟩ (madeN s)).c = c at *
  generalize madeN s = n at *
  have ho : ∀ v ∈ c.opn, 0 ≤ v ∧ v < (c.lo.length : Int) := fun v hv => ⟨(h.opn v hv).1, (h.opn v hv).2.1⟩
  have hat : ∀ u : Int, 0 ≤ u → u < (c.lo.length : Int) → loAt (shutTo c.lo c.opn (n : Int) c.opn.length) u = if u ∈ c.opn then { loAt c.lo u with till := (n : Int) } else loAt c.lo u := fun u u0 ul => by
    have := loAt_shut c.lo c.opn (n : Int) ho c.opn.length (Nat.le_refl _) u u0 ul
    rwa [List.take_length] at this
  have hlen : (shutTo c.lo c.opn (n : Int) c.opn.length).length = c.lo.length := by
    have : ∀ j, (shutTo c.lo c.opn (n : Int) j).length = c.lo.length := fun j => by
      induction j with
      | zero => rfl
      | succ j ihj => rw [shutTo, setTill_length, ihj]
    exact this _
  have hM := h.many
  have hfr : ∀ u : Int, 0 ≤ u → u < (c.lo.length : Int) → (loAt (shutTo c.lo c.opn (n : Int) c.opn.length) u).fr = (loAt c.lo u).fr := fun u u0 ul => by
    rw [hat u u0 ul]
    split <;> rfl
  have hti : ∀ u : Int, 0 ≤ u → u < (c.lo.length : Int) → u ∈ c.opn → (loAt (shutTo c.lo c.opn (n : Int) c.opn.length) u).till = (n : Int) := fun u u0 ul hu => by
    rw [hat u u0 ul, if_pos hu]
  have hto : ∀ u : Int, 0 ≤ u → u < (c.lo.length : Int) → u ∉ c.opn → (loAt (shutTo c.lo c.opn (n : Int) c.opn.length) u).till = (loAt c.lo u).till := fun u u0 ul hu => by
    rw [hat u u0 ul, if_neg hu]
  have hfrs : ∀ v : Int, 0 ≤ v → v < (c.lo.length : Int) → 0 ≤ (loAt c.lo v).fr ∧ (loAt c.lo v).fr ≤ 1000 := fun v v0 vl => by
    by_cases h2 : 2 ≤ v
    · obtain ⟨d1, x, hx, _, d2⟩ := h.decl v h2 vl
      have := hs x hx
      omega
    · rw [h.first v v0 (by omega)]
      omega
  refine ⟨h.mono, by show 2 ≤ (shutTo c.lo c.opn (n : Int) c.opn.length).length; rw [hlen]; omega, ?_, ?_, ?_, ?_, ?_, ?_⟩
  · intro x hx v hv hvl
    change v < ((shutTo c.lo c.opn (n : Int) c.opn.length).length : Int) at hvl
    rw [hlen] at hvl
    obtain ⟨p, hp⟩ := mem_at hx
    rcases h.reads p x hp v hv with ⟨r1, r2, r3, r4⟩ | ⟨h1, _⟩
    · refine ⟨r1, fun v2 => ?_, ?_⟩
      · show (loAt (shutTo c.lo c.opn (n : Int) c.opn.length) v).fr ≤ _
        rw [hfr v r1 r2]
        exact r3 v2
      · show _ < (loAt (shutTo c.lo c.opn (n : Int) c.opn.length) v).till
        by_cases ho : v ∈ c.opn
        · rw [hti v r1 r2 ho]
          exact hs x hx
        · rw [hto v r1 r2 ho]
          exact r4 ho
    · omega
  · intro x hx h0 hvl
    change makesL x < ((shutTo c.lo c.opn (n : Int) c.opn.length).length : Int) at hvl
    rw [hlen] at hvl
    rcases h.makes x hx h0 with ⟨r2, r3, r4⟩ | ⟨h1, _⟩
    · refine ⟨fun v2 => ?_, ?_⟩
      · show (loAt (shutTo c.lo c.opn (n : Int) c.opn.length) _).fr - 1 ≤ _
        rw [hfr _ h0 r2]
        exact r3 v2
      · show _ < (loAt (shutTo c.lo c.opn (n : Int) c.opn.length) _).till
        by_cases ho : makesL x ∈ c.opn
        · rw [hti _ h0 r2 ho]
          exact hs x hx
        · rw [hto _ h0 r2 ho]
          exact r4 ho
    · omega
  · intro v v2 vl
    change v < ((shutTo c.lo c.opn (n : Int) c.opn.length).length : Int) at vl
    rw [hlen] at vl
    show (loAt (shutTo c.lo c.opn (n : Int) c.opn.length) v).fr ≤ (loAt (shutTo c.lo c.opn (n : Int) c.opn.length) v).till ∧ ∃ x ∈ c.l, makesL x = v ∧ x.step = (loAt (shutTo c.lo c.opn (n : Int) c.opn.length) v).fr - 1
    rw [hfr v (by omega) vl]
    refine ⟨?_, (h.decl v v2 vl).2⟩
    by_cases ho : v ∈ c.opn
    · rw [hti v (by omega) vl ho]
      exact (h.opn v ho).2.2
    · rw [hto v (by omega) vl ho]
      exact h.shut v v2 vl ho
  · intro p x hx v hv hvl
    change ((shutTo c.lo c.opn (n : Int) c.opn.length).length : Int) ≤ v at hvl
    rw [hlen] at hvl
    rcases h.reads p x hx v hv with ⟨r1, r2, _⟩ | ⟨_, _, h3⟩
    · omega
    · exact h3
  · intro p q x y hx hy he hvl
    change ((shutTo c.lo c.opn (n : Int) c.opn.length).length : Int) ≤ _ at hvl
    rw [hlen, hl] at hvl
    exact h.once p q x y hx hy he hvl
  · intro x hx
    obtain ⟨p, hp⟩ := mem_at hx
    have hpl := (List.getElem?_eq_some_iff.1 hp).1
    change p < (shutTo c.lo c.opn (n : Int) c.opn.length).length at hpl
    rw [hlen] at hpl
    have hx2 : loAt (shutTo c.lo c.opn (n : Int) c.opn.length) (p : Int) = x := by
      unfold loAt
      rw [Int.toNat_natCast, List.getD, hp]
      rfl
    have h1 := hfr (p : Int) (by omega) (by omega)
    rw [hx2] at h1
    rw [h1]
    exact hfrs (p : Int) (by omega) (by omega)
end Go.Proofs.Ytfmkfmcplffhdaa

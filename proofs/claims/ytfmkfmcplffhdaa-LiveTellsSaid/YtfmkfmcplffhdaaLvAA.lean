/- The spans of good code are as they should be. Plain; no condition. -/
import Derived.Test.YtfmkfmcplffhdaaLvZ
namespace Go.Proofs.Ytfmkfmcplffhdaa
set_option linter.unusedVariables false
section
variable {l : List I9} {xs : List Lo4}
theorem begins_len (l : List I9) (st : Int) : (beginsN l st : Int) ≤ (l.length : Int) := by have := beginsN_le l st; omega
/-- Of each local: its span is among them. -/
theorem local_in (g : Good l xs) {v : Int} (v0 : 0 ≤ v) (vl : v < (xs.length : Int)) : localL l v (loAt xs v) (decide (v < 2)) ∈ spansL l xs 2 := by
  refine List.mem_append_left _ ((localsL_mem l 2 0 xs _).2 ⟨v.toNat, loAt xs v, ?_, ?_⟩)
  · unfold loAt
    rw [List.getD, List.getElem?_eq_getElem (by omega)]
    rfl
  · rw [Nat.zero_add, Int.toNat_of_nonneg v0]
theorem temp_in {v : Int} (hv : (xs.length : Int) ≤ v) {t : T3} (ht : t ∈ touchL l) (htv : t.v = v) : spanS (atS (knownL xs.length l) v) v ∈ spansL l xs 2 := by
  refine List.mem_append_right _ (List.mem_map.2 ⟨v, keys_mem.2 ((know_keys xs.length (touchL l) [] v).2 (.inr ⟨hv, t, ht, htv⟩)), rfl⟩)
theorem in_spans {s : Sp3} (h : s ∈ spansL l xs 2) : (∃ v : Int, 0 ≤ v ∧ v < (xs.length : Int) ∧ s = localL l v (loAt xs v) (decide (v < 2))) ∨ (∃ v : Int, (xs.length : Int) ≤ v ∧ (∃ t ∈ touchL l, t.v = v) ∧ s = spanS (atS (knownL xs.length l) v) v) := by
  rcases List.mem_append.1 h with h | h
  · obtain ⟨k, x, hx, rfl⟩ := (localsL_mem l 2 0 xs s).1 h
    have hk := (List.getElem?_eq_some_iff.1 hx).1
    rw [Nat.zero_add]
    exact .inl ⟨(k : Int), by omega, by omega, by rw [loAt_get hx]⟩
  · obtain ⟨v, hv, rfl⟩ := List.mem_map.1 h
    rcases (know_keys xs.length (touchL l) [] v).1 (keys_mem.1 hv) with h1 | h1
    · simp at h1
    · exact .inr ⟨v, h1.1, h1.2, rfl⟩
theorem spanF (g : Good l xs) : SpanF l xs (spansL l xs 2) := by
  have hpar : ∀ v : Int, v < 2 → localL l v (loAt xs v) (decide (v < 2)) = ⟨v, 0, (beginsN l (loAt xs v).till : Int)⟩ := fun v hv => by
    unfold localL
    simp [hv]
  have hloc : ∀ v : Int, ¬ v < 2 → localL l v (loAt xs v) (decide (v < 2)) = localL l v (loAt xs v) false := fun v hv => by simp [hv]
  refine ⟨?_, ?_, ?_, ?_, ?_, ?_, ?_⟩
  · refine List.pairwise_append.2 ⟨localsL_sorted l 2 0 xs, ?_, ?_⟩
    · have hnd := know_nodup xs.length (touchL l) [] (by simp)
      refine List.pairwise_map.2 ((keys_ord hnd).imp (fun {a b} h => h))
    · intro a ha b hb
      obtain ⟨k, x, hx, rfl⟩ := (localsL_mem l 2 0 xs a).1 ha
      obtain ⟨v, hv, rfl⟩ := List.mem_map.1 hb
      have hk := (List.getElem?_eq_some_iff.1 hx).1
      rw [localL_v]
      rcases (know_keys xs.length (touchL l) [] v).1 (keys_mem.1 hv) with h1 | h1
      · simp at h1
      · show ((0 + k : Nat) : Int) < v
        omega
  · intro s hs
    rcases in_spans hs with ⟨v, v0, vl, rfl⟩ | ⟨v, hv, ⟨t, ht, htv⟩, rfl⟩
    · by_cases h2 : v < 2
      · rw [hpar v h2]
        exact ⟨v0, Int.le_refl _, begins_len _ _, by show (0 : Int) ≤ (beginsN l (loAt xs v).till : Int); omega⟩
      · rw [hloc v h2]
        obtain ⟨d, ⟨x, hx, _, hs1⟩, _, he⟩ := local_span g (by omega) vl
        rw [he]
        have hlt := (begins_lt g.mono hx (loAt xs v).till).2 (by have := (g.decl v (by omega) vl).1; omega)
        exact ⟨v0, by show (0 : Int) ≤ (d : Int); omega, begins_len _ _, by show (d : Int) ≤ (beginsN l _ : Int); omega⟩
    · obtain ⟨d, e, _, he, h1, h2, _, _⟩ := temp_span g hv ht htv
      rw [he]
      exact ⟨by show 0 ≤ v; omega, by show (0 : Int) ≤ (d : Int); omega, by show (e : Int) ≤ _; omega, by show (d : Int) ≤ (e : Int); omega⟩
  · intro p x r hx hr
    by_cases hl : r < (xs.length : Int)
    · obtain ⟨r0, r1, r2⟩ := g.locR x (List.mem_of_getElem? hx) r hr hl
      refine ⟨_, local_in g r0 hl, localL_v _ _ _ _, ?_⟩
      have hlt := (begins_lt g.mono hx (loAt xs r).till).2 r2
      by_cases h2 : r < 2
      · rw [hpar r h2]
        exact ⟨.inr ⟨h2, rfl⟩, by show (p : Int) ≤ (beginsN l _ : Int); omega⟩
      · rw [hloc r h2]
        obtain ⟨d, ⟨y, hy, _, hs1⟩, _, he⟩ := local_span g (by omega) hl
        rw [he]
        refine ⟨.inl ?_, by show (p : Int) ≤ (beginsN l _ : Int); omega⟩
        show (d : Int) < (p : Int)
        rcases Nat.lt_or_ge d p with h3 | h3
        · omega
        · have := step_le g.mono hx hy h3
          have := r1 (by omega)
          omega
    · obtain ⟨d, e, _, he, _, _, h3, _⟩ := temp_span g (v := r) (by omega) (mem_read hx hr) rfl
      refine ⟨_, temp_in (v := r) (by omega) (mem_read hx hr) rfl, rfl, ?_⟩
      rw [he]
      obtain ⟨h4, h5⟩ := h3 p x hx hr
      exact ⟨.inl (by show (d : Int) < _; omega), by show _ ≤ (e : Int); omega⟩
  · intro p x hx h0
    by_cases hl : makesL x < (xs.length : Int)
    · obtain ⟨r1, r2⟩ := g.locM x (List.mem_of_getElem? hx) h0 hl
      refine ⟨_, local_in g h0 hl, localL_v _ _ _ _, ?_⟩
      have hlt := (begins_lt g.mono hx (loAt xs (makesL x)).till).2 r2
      by_cases h2 : makesL x < 2
      · rw [hpar _ h2]
        refine ⟨by show (0 : Int) ≤ _; omega, by show (p : Int) ≤ (beginsN l _ : Int); omega, ?_⟩
        show (p : Int) < max (beginsN l _ : Int) (0 + 1)
        omega
      · rw [hloc _ h2]
        obtain ⟨d, ⟨y, hy, _, hs1⟩, hmin, he⟩ := local_span g (by omega) hl
        rw [he]
        have hdp : d ≤ p := by
          by_cases h3 : x.step = (loAt xs (makesL x)).fr - 1
          · exact hmin p x hx rfl h3
          · rcases Nat.lt_or_ge p d with h4 | h4
            · have := step_le g.mono hx hy (by omega)
              have := r1 (by omega)
              omega
            · exact h4
        refine ⟨by show (d : Int) ≤ _; omega, by show (p : Int) ≤ (beginsN l _ : Int); omega, ?_⟩
        show (p : Int) < max (beginsN l _ : Int) ((d : Int) + 1)
        omega
    · obtain ⟨d, e, _, he, h1, _, _, h4⟩ := temp_span g (v := makesL x) (by omega) (mem_make hx h0) rfl
      refine ⟨_, temp_in (v := makesL x) (by omega) (mem_make hx h0) rfl, rfl, ?_⟩
      rw [he]
      have h5 := h4 p x hx rfl
      subst h5
      refine ⟨Int.le_refl _, by show _ ≤ (e : Int); omega, ?_⟩
      show (p : Int) < max (e : Int) ((p : Int) + 1)
      omega
  · intro s hs hs2
    rcases in_spans hs with ⟨v, v0, vl, rfl⟩ | ⟨v, hv, ⟨t, ht, htv⟩, rfl⟩
    · rw [localL_v] at hs2
      rw [hloc v (by omega)]
      obtain ⟨d, ⟨x, hx, hm, _⟩, _, he⟩ := local_span g (by omega) vl
      rw [he]
      exact ⟨x, by show l[((d : Int)).toNat]? = some x; rw [Int.toNat_natCast]; exact hx, hm⟩
    · obtain ⟨d, e, ⟨x, hx, hm⟩, he, _⟩ := temp_span g hv ht htv
      rw [he]
      exact ⟨x, by show l[((d : Int)).toNat]? = some x; rw [Int.toNat_natCast]; exact hx, hm⟩
  · intro v v0 v2
    have h2 := g.two
    refine ⟨_, local_in g v0 (by omega), localL_v _ _ _ _, ?_⟩
    rw [hpar v v2]
  · intro v v0 vl
    refine ⟨_, local_in g v0 vl, localL_v _ _ _ _, fun p x hx h1 h2 => ?_⟩
    have hlt := (begins_lt g.mono hx (loAt xs v).till).2 h2
    by_cases h3 : v < 2
    · rw [hpar v h3]
      exact ⟨by show (0 : Int) ≤ _; omega, by show (p : Int) < (beginsN l _ : Int); omega⟩
    · rw [hloc v h3]
      obtain ⟨d, ⟨y, hy, _, hs1⟩, _, he⟩ := local_span g (by omega) vl
      rw [he]
      refine ⟨?_, by show (p : Int) < (beginsN l _ : Int); omega⟩
      show (d : Int) ≤ (p : Int)
      rcases Nat.lt_or_ge p d with h4 | h4
      · have := step_le g.mono hx hy (by omega)
        have := h1 (by omega)
        omega
      · omega
end
end Go.Proofs.Ytfmkfmcplffhdaa

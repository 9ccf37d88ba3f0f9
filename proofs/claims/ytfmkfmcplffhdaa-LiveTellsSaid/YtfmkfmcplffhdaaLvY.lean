/- The spans of good code: where each value is read and made. Plain; no condition. -/
import Derived.Test.YtfmkfmcplffhdaaLvX
namespace Go.Proofs.Ytfmkfmcplffhdaa
set_option linter.unusedVariables false

theorem touchI_at {k : Nat} {i : I9} {t : T3} (h : t ∈ touchI k i) : t.at' = k ∧ ((t.made = false ∧ t.v ∈ readsL i) ∨ (t.made = true ∧ t.v = makesL i ∧ 0 ≤ makesL i)) := by
  simp only [touchI, touchR, List.mem_append, List.mem_map] at h
  rcases h with ⟨v, hv, rfl⟩ | h
  · exact ⟨rfl, .inl ⟨rfl, hv⟩⟩
  · split at h
    · rename_i h0
      simp only [List.mem_singleton] at h
      rw [h]
      exact ⟨rfl, .inr ⟨rfl, rfl, h0⟩⟩
    · cases h
theorem touch_sorted_from : ∀ (k : Nat) (l : List I9), (touchFrom k l).Pairwise (fun a b => a.at' ≤ b.at') ∧ ∀ t ∈ touchFrom k l, k ≤ t.at'
  | k, [] => by simp [touchFrom]
  | k, i :: r => by
    obtain ⟨h1, h2⟩ := touch_sorted_from (k + 1) r
    have h3 : ∀ t ∈ touchI k i, t.at' = k := fun t ht => (touchI_at ht).1
    refine ⟨?_, fun t ht => ?_⟩
    · show (touchI k i ++ touchFrom (k + 1) r).Pairwise _
      refine List.pairwise_append.2 ⟨?_, h1, fun a ha b hb => ?_⟩
      · refine List.Pairwise.imp_of_mem (R := fun _ _ => True) (fun {a b} ha hb _ => ?_) (List.pairwise_of_forall (fun _ _ => trivial))
        rw [h3 a ha, h3 b hb]
        exact Nat.le_refl _
      · rw [h3 a ha]
        have := h2 b hb
        omega
    · rcases List.mem_append.1 (show t ∈ touchI k i ++ touchFrom (k + 1) r from ht) with h | h
      · rw [h3 t h]
        exact Nat.le_refl _
      · have := h2 t h
        omega
theorem touch_sorted (l : List I9) : (touchL l).Pairwise (fun a b => a.at' ≤ b.at') := (touch_sorted_from 0 l).1
theorem mem_touch_from : ∀ (k : Nat) (l : List I9) (p : Nat) (x : I9), l[p]? = some x → ∀ t ∈ touchI (k + p) x, t ∈ touchFrom k l
  | k, [], p, x, h, _, _ => by simp at h
  | k, i :: r, 0, x, h, t, ht => by
    simp at h
    subst h
    exact List.mem_append_left _ ht
  | k, i :: r, p + 1, x, h, t, ht => by
    refine List.mem_append_right _ (mem_touch_from (k + 1) r p x (by simpa using h) t ?_)
    rw [show k + 1 + p = k + (p + 1) by omega]
    exact ht
theorem mem_read {l : List I9} {p : Nat} {x : I9} (hx : l[p]? = some x) {v : Int} (hv : v ∈ readsL x) : (⟨v, p, false⟩ : T3) ∈ touchL l :=
  mem_touch_from 0 l p x hx _ (by rw [Nat.zero_add]; exact List.mem_append_left _ (List.mem_map.2 ⟨v, hv, rfl⟩))
theorem mem_make {l : List I9} {p : Nat} {x : I9} (hx : l[p]? = some x) (h0 : 0 ≤ makesL x) : (⟨makesL x, p, true⟩ : T3) ∈ touchL l :=
  mem_touch_from 0 l p x hx _ (by rw [Nat.zero_add]; exact List.mem_append_right _ (by rw [if_pos h0]; simp))
theorem of_touch {l : List I9} {t : T3} (h : t ∈ touchL l) : ∃ x, l[t.at']? = some x ∧ ((t.made = false ∧ t.v ∈ readsL x) ∨ (t.made = true ∧ t.v = makesL x ∧ 0 ≤ makesL x)) := by
  obtain ⟨x, hx, ht⟩ := touch_at h
  exact ⟨x, hx, (touchI_at ht).2⟩

/-! What is known of one value. -/
theorem foldU_made : ∀ (ts : List T3) (s : Sn4), s.isMade = true → (ts.foldl updS s).isMade = true ∧ (ts.foldl updS s).made = s.made
  | [], s, h => ⟨h, rfl⟩
  | t :: r, s, h => by
    have h1 : (updS s t).isMade = true ∧ (updS s t).made = s.made := by
      unfold updS
      split
      · simp [h]
      · exact ⟨h, rfl⟩
    obtain ⟨h2, h3⟩ := foldU_made r (updS s t) h1.1
    exact ⟨h2, h3.trans h1.2⟩
theorem foldU : ∀ (ts : List T3) (s : Sn4), ts.Pairwise (fun a b => a.at' ≤ b.at') → (s.isMade = true → ∀ t ∈ ts, s.made ≤ t.at') → (s.isIn = true → ∀ t ∈ ts, s.read ≤ t.at') →
    (∀ t ∈ ts, t.made = false → (ts.foldl updS s).isIn = true ∧ t.at' ≤ (ts.foldl updS s).read) ∧
    ((ts.foldl updS s).isIn = true → (s.isIn = true ∧ (ts.foldl updS s).read = s.read) ∨ ∃ t ∈ ts, t.made = false ∧ t.at' = (ts.foldl updS s).read) ∧
    (∀ t ∈ ts, t.made = true → (ts.foldl updS s).isMade = true ∧ (ts.foldl updS s).made ≤ t.at') ∧
    ((ts.foldl updS s).isMade = true → (s.isMade = true ∧ (ts.foldl updS s).made = s.made) ∨ ∃ t ∈ ts, t.made = true ∧ t.at' = (ts.foldl updS s).made)
  | [], s, _, _, _ => ⟨by simp, fun h => .inl ⟨h, rfl⟩, by simp, fun h => .inl ⟨h, rfl⟩⟩
  | t :: r, s, hp, hm, hi => by
    obtain ⟨hp1, hp2⟩ := List.pairwise_cons.1 hp
    have hU : updS s t = if t.made then (if s.isMade then s else { s with made := t.at', isMade := true }) else { s with read := t.at', isIn := true } := rfl
    have hm' : (updS s t).isMade = true → ∀ u ∈ r, (updS s t).made ≤ u.at' := fun h u hu => by
      rw [hU] at h ⊢
      split at h
      · split at h
        · rename_i h1 h2
          rw [if_pos h1, if_pos h2]
          exact hm h2 u (List.mem_cons_of_mem _ hu)
        · rename_i h1 h2
          rw [if_pos h1, if_neg h2]
          exact hp1 u hu
      · rename_i h1
        rw [if_neg h1]
        exact hm h u (List.mem_cons_of_mem _ hu)
    have hi' : (updS s t).isIn = true → ∀ u ∈ r, (updS s t).read ≤ u.at' := fun h u hu => by
      rw [hU] at h ⊢
      split at h
      · split at h
        · rename_i h1 h2
          rw [if_pos h1, if_pos h2]
          exact hi h u (List.mem_cons_of_mem _ hu)
        · rename_i h1 h2
          rw [if_pos h1, if_neg h2]
          exact hi h u (List.mem_cons_of_mem _ hu)
      · rename_i h1
        rw [if_neg h1]
        exact hp1 u hu
    obtain ⟨q1, q2, q3, q4⟩ := foldU r (updS s t) hp2 hm' hi'
    refine ⟨fun u hu hmu => ?_, fun h => ?_, fun u hu hmu => ?_, fun h => ?_⟩
    · rcases List.mem_cons.1 hu with rfl | hu
      · -- the touch itself: read then, or later
        have h1 : (updS s u).isIn = true ∧ (updS s u).read = u.at' := by rw [hU, hmu]; exact ⟨rfl, rfl⟩
        show (r.foldl updS (updS s u)).isIn = true ∧ u.at' ≤ (r.foldl updS (updS s u)).read
        have h2 : (r.foldl updS (updS s u)).isIn = true := by
          have : ∀ (ts : List T3) (z : Sn4), z.isIn = true → (ts.foldl updS z).isIn = true := fun ts => by
            induction ts with
            | nil => exact fun z h => h
            | cons y ys ih =>
              intro z hz
              refine ih (updS z y) ?_
              unfold updS
              split
              · split <;> exact hz
              · rfl
          exact this r _ h1.1
        refine ⟨h2, ?_⟩
        rcases q2 h2 with ⟨_, h3⟩ | ⟨y, hy, _, h3⟩
        · rw [h3, h1.2]
          exact Nat.le_refl _
        · rw [← h3]
          exact hp1 y hy
      · exact q1 u hu hmu
    · rcases q2 h with ⟨h1, h2⟩ | ⟨y, hy, h3, h4⟩
      · by_cases hmt : t.made = true
        · refine .inl ?_
          show s.isIn = true ∧ (r.foldl updS (updS s t)).read = s.read
          rw [h2]
          rw [hU, hmt, if_pos rfl] at h1 ⊢
          split at h1 <;> rename_i h5
          · rw [if_pos h5]; exact ⟨h1, rfl⟩
          · rw [if_neg h5]; exact ⟨h1, rfl⟩
        · refine .inr ⟨t, by simp, by simpa using hmt, ?_⟩
          show t.at' = (r.foldl updS (updS s t)).read
          rw [h2, hU, if_neg hmt]
      · exact .inr ⟨y, List.mem_cons_of_mem _ hy, h3, h4⟩
    · rcases List.mem_cons.1 hu with rfl | hu
      · show (r.foldl updS (updS s u)).isMade = true ∧ (r.foldl updS (updS s u)).made ≤ u.at'
        have h1 : (updS s u).isMade = true ∧ (updS s u).made ≤ u.at' := by
          rw [hU, hmu, if_pos rfl]
          split
          · rename_i h5
            exact ⟨h5, hm h5 u (by simp)⟩
          · exact ⟨rfl, Nat.le_refl _⟩
        obtain ⟨h2, h3⟩ := foldU_made r _ h1.1
        exact ⟨h2, by rw [h3]; exact h1.2⟩
      · exact q3 u hu hmu
    · rcases q4 h with ⟨h1, h2⟩ | ⟨y, hy, h3, h4⟩
      · by_cases hmt : t.made = true
        · by_cases hsm : s.isMade = true
          · refine .inl ⟨hsm, ?_⟩
            show (r.foldl updS (updS s t)).made = s.made
            rw [h2, hU, if_pos hmt, if_pos hsm]
          · refine .inr ⟨t, by simp, hmt, ?_⟩
            show t.at' = (r.foldl updS (updS s t)).made
            rw [h2, hU, if_pos hmt, if_neg hsm]
        · refine .inl ?_
          show s.isMade = true ∧ (r.foldl updS (updS s t)).made = s.made
          rw [h2]
          rw [hU, if_neg hmt] at h1 ⊢
          exact ⟨h1, rfl⟩
      · exact .inr ⟨y, List.mem_cons_of_mem _ hy, h3, h4⟩
theorem atS_put (k : Kn) (n : Int) (s : Sn4) (v : Int) : atS (putA k n s) v = if n = v then s else atS k v := by
  unfold atS
  rw [getA_put]
  split <;> rfl
theorem know_at (N : Nat) : ∀ (ts : List T3) (k : Kn) (v : Int), (N : Int) ≤ v → atS (ts.foldl (knowStep N) k) v = (ts.filter (fun t => decide (t.v = v))).foldl updS (atS k v)
  | [], k, v, _ => rfl
  | t :: r, k, v, hv => by
    have ih := know_at N r (knowStep N k t) v hv
    show atS (r.foldl (knowStep N) (knowStep N k t)) v = _
    rw [ih]
    by_cases h : t.v = v
    · rw [List.filter_cons_of_pos (by simpa using h)]
      show _ = (r.filter _).foldl updS (updS (atS k v) t)
      congr 1
      unfold knowStep
      rw [if_neg (by omega), atS_put, if_pos h, h]
    · rw [List.filter_cons_of_neg (by simpa using h)]
      congr 1
      unfold knowStep
      split
      · rfl
      · rw [atS_put, if_neg h]
theorem know_keys (N : Nat) : ∀ (ts : List T3) (k : Kn) (v : Int), v ∈ (ts.foldl (knowStep N) k).map (·.1) ↔ v ∈ k.map (·.1) ∨ ((N : Int) ≤ v ∧ ∃ t ∈ ts, t.v = v)
  | [], k, v => by simp
  | t :: r, k, v => by
    have ih := know_keys N r (knowStep N k t) v
    show v ∈ (r.foldl (knowStep N) (knowStep N k t)).map (·.1) ↔ _
    rw [ih]
    have h1 : v ∈ (knowStep N k t).map (·.1) ↔ v ∈ k.map (·.1) ∨ ((N : Int) ≤ v ∧ t.v = v) := by
      unfold knowStep
      split
      · constructor
        · exact .inl
        · rintro (h | ⟨h, e⟩)
          · exact h
          · omega
      · rw [keys_put]
        constructor
        · rintro (h | h)
          · exact .inr ⟨by omega, h.symm⟩
          · exact .inl h
        · rintro (h | ⟨_, h⟩)
          · exact .inr h
          · exact .inl h.symm
    rw [h1]
    constructor
    · rintro ((h | ⟨h, e⟩) | ⟨h, u, hu, e⟩)
      · exact .inl h
      · exact .inr ⟨h, t, by simp, e⟩
      · exact .inr ⟨h, u, List.mem_cons_of_mem _ hu, e⟩
    · rintro (h | ⟨h, u, hu, e⟩)
      · exact .inl (.inl h)
      · rcases List.mem_cons.1 hu with rfl | hu
        · exact .inl (.inr ⟨h, e⟩)
        · exact .inr ⟨h, u, hu, e⟩
end Go.Proofs.Ytfmkfmcplffhdaa

/- The spans of good code, told whole. Plain; no condition. -/
import Derived.Test.YtfmkfmcplffhdaaLvY
namespace Go.Proofs.Ytfmkfmcplffhdaa
set_option linter.unusedVariables false

structure SpanF (l : List I9) (xs : List Lo4) (sp : List Sp3) : Prop where
  sorted : sp.Pairwise (fun a b => a.v < b.v)
  bounds : ∀ s ∈ sp, 0 ≤ s.v ∧ 0 ≤ s.fr ∧ s.till ≤ (l.length : Int) ∧ s.fr ≤ s.till
  read : ∀ (p : Nat) (x : I9) (r : Int), l[p]? = some x → r ∈ readsL x → ∃ s ∈ sp, s.v = r ∧ (s.fr < (p : Int) ∨ (r < 2 ∧ s.fr = 0)) ∧ (p : Int) ≤ s.till
  make : ∀ (p : Nat) (x : I9), l[p]? = some x → 0 ≤ makesL x → ∃ s ∈ sp, s.v = makesL x ∧ s.fr ≤ (p : Int) ∧ (p : Int) ≤ s.till ∧ (p : Int) < max s.till (s.fr + 1)
  born : ∀ s ∈ sp, 2 ≤ s.v → ∃ x, l[s.fr.toNat]? = some x ∧ makesL x = s.v
  first : ∀ v : Int, 0 ≤ v → v < 2 → ∃ s ∈ sp, s.v = v ∧ s.fr = 0
  scope : ∀ v : Int, 0 ≤ v → v < (xs.length : Int) → ∃ s ∈ sp, s.v = v ∧ ∀ (p : Nat) (x : I9), l[p]? = some x → (2 ≤ v → (loAt xs v).fr ≤ x.step) → x.step < (loAt xs v).till → s.fr ≤ (p : Int) ∧ (p : Int) < s.till

theorem begins_lt {l : List I9} (hm : l.Pairwise (fun x y => x.step ≤ y.step)) {p : Nat} {x : I9} (hx : l[p]? = some x) (st : Int) : p < beginsN l st ↔ x.step < st := by
  obtain ⟨hp, he⟩ := List.getElem?_eq_some_iff.1 hx
  constructor
  · intro h
    have := List.not_of_lt_findIdx h
    rw [he] at this
    simpa using this
  · intro h
    rcases Nat.lt_or_ge p (beginsN l st) with h1 | h1
    · exact h1
    · exfalso
      have hlt : beginsN l st < l.length := by omega
      have h2 : decide (st ≤ (l[beginsN l st]).step) = true := List.findIdx_getElem (w := hlt)
      have h3 : st ≤ (l[beginsN l st]).step := by simpa using h2
      rcases Nat.lt_or_ge (beginsN l st) p with h4 | h4
      · have := List.pairwise_iff_getElem.1 hm _ _ hlt hp h4
        rw [he] at this
        omega
      · have : beginsN l st = p := by omega
        simp only [this, he] at h3
        omega
theorem step_le {l : List I9} (hm : l.Pairwise (fun x y => x.step ≤ y.step)) {p q : Nat} {x y : I9} (hx : l[p]? = some x) (hy : l[q]? = some y) (h : p ≤ q) : x.step ≤ y.step := by
  obtain ⟨hp, he⟩ := List.getElem?_eq_some_iff.1 hx
  obtain ⟨hq, hf⟩ := List.getElem?_eq_some_iff.1 hy
  rcases Nat.lt_or_ge p q with h1 | h1
  · have := List.pairwise_iff_getElem.1 hm _ _ hp hq h1
    rwa [he, hf] at this
  · have : p = q := by omega
    subst this
    rw [← he, hf]
    exact Int.le_refl _
theorem find_min {P : T3 → Bool} : ∀ {L : List T3}, L.Pairwise (fun a b => a.at' ≤ b.at') → ∀ {t : T3}, L.find? P = some t → ∀ u ∈ L, P u = true → t.at' ≤ u.at'
  | [], _, t, h, _, _, _ => by simp at h
  | x :: r, hp, t, h, u, hu, hP => by
    obtain ⟨h1, h2⟩ := List.pairwise_cons.1 hp
    by_cases hx : P x = true
    · rw [List.find?_cons_of_pos hx] at h
      cases h
      rcases List.mem_cons.1 hu with rfl | hu
      · exact Nat.le_refl _
      · exact h1 u hu
    · rw [List.find?_cons_of_neg hx] at h
      rcases List.mem_cons.1 hu with rfl | hu
      · exact absurd hP hx
      · exact find_min h2 h u hu hP
theorem localL_v (l : List I9) (v : Int) (x : Lo4) (b : Bool) : (localL l v x b).v = v := by
  unfold localL
  split
  · rfl
  split <;> rfl
theorem localsL_mem (l : List I9) (params : Int) : ∀ (i : Nat) (xs : List Lo4) (s : Sp3), s ∈ localsL l params i xs ↔ ∃ (k : Nat) (x : Lo4), xs[k]? = some x ∧ s = localL l ((i + k : Nat) : Int) x (decide (((i + k : Nat) : Int) < params))
  | i, [], s => by simp [localsL]
  | i, x :: r, s => by
    rw [localsL, List.mem_cons, localsL_mem l params (i + 1) r s]
    constructor
    · rintro (h | ⟨k, y, hy, h⟩)
      · exact ⟨0, x, rfl, by simpa using h⟩
      · exact ⟨k + 1, y, by simpa using hy, by rw [h, show i + 1 + k = i + (k + 1) by omega]⟩
    · rintro ⟨k, y, hy, h⟩
      cases k with
      | zero =>
        simp at hy
        subst hy
        exact .inl (by simpa using h)
      | succ k => exact .inr ⟨k, y, by simpa using hy, by rw [h, show i + 1 + k = i + (k + 1) by omega]⟩
theorem localsL_sorted (l : List I9) (params : Int) : ∀ (i : Nat) (xs : List Lo4), (localsL l params i xs).Pairwise (fun a b => a.v < b.v)
  | i, [] => by simp [localsL]
  | i, x :: r => by
    rw [localsL]
    refine List.pairwise_cons.2 ⟨fun s hs => ?_, localsL_sorted l params (i + 1) r⟩
    obtain ⟨k, y, _, rfl⟩ := (localsL_mem l params (i + 1) r s).1 hs
    rw [localL_v, localL_v]
    omega
theorem keys_ord {k : Kn} (h : (k.map (·.1)).Nodup) : (keysL k).Pairwise (· < ·) := by
  have h1 : (keysL k).Pairwise (fun a b => decide (a ≤ b) = true) := List.pairwise_mergeSort (fun a b c h1 h2 => by simp only [decide_eq_true_eq] at *; omega) (fun a b => by simp only [Bool.or_eq_true, decide_eq_true_eq]; omega) _
  have h2 : (keysL k).Nodup := (List.mergeSort_perm _ _).nodup_iff.2 h
  have h3 := List.pairwise_and_iff.2 ⟨h1, h2⟩
  exact h3.imp (fun {a b} ⟨h4, h5⟩ => by simp only [decide_eq_true_eq] at h4; omega)
theorem keys_mem {k : Kn} {v : Int} : v ∈ keysL k ↔ v ∈ k.map (·.1) := (List.mergeSort_perm _ _).mem_iff
section
variable {l : List I9} {xs : List Lo4}
theorem loAt_get {k : Nat} {x : Lo4} (h : xs[k]? = some x) : loAt xs (k : Int) = x := by
  unfold loAt
  rw [Int.toNat_natCast, List.getD, h]
  rfl
/-- The span of a local that is no parameter. -/
theorem local_span (g : Good l xs) {v : Int} (v2 : 2 ≤ v) (vl : v < (xs.length : Int)) : ∃ d : Nat, (∃ x, l[d]? = some x ∧ makesL x = v ∧ x.step = (loAt xs v).fr - 1) ∧ (∀ (p : Nat) (x : I9), l[p]? = some x → makesL x = v → x.step = (loAt xs v).fr - 1 → d ≤ p) ∧ localL l v (loAt xs v) false = ⟨v, (d : Int), (beginsN l (loAt xs v).till : Int)⟩ := by
  obtain ⟨_, y, hy, h1, h2⟩ := g.decl v v2 vl
  obtain ⟨q, hq⟩ := mem_at hy
  have hdec : ∀ (p : Nat) (x : I9), l[p]? = some x → makesL x = v → x.step = (loAt xs v).fr - 1 → isDecl l v (loAt xs v).fr ⟨v, p, true⟩ = true := fun p x hx _ hs => by
    unfold isDecl stepAt
    simp [hx, hs]
  have hmem : ∀ (p : Nat) (x : I9), l[p]? = some x → makesL x = v → (⟨v, p, true⟩ : T3) ∈ touchL l := fun p x hx hv => by
    have := mem_make hx (by omega)
    rwa [hv] at this
  cases hf : (touchL l).find? (isDecl l v (loAt xs v).fr) with
  | none =>
    rw [List.find?_eq_none] at hf
    exact absurd (hdec q y hq h1 h2) (by simpa using hf _ (hmem q y hq h1))
  | some t =>
    have ht := List.find?_some hf
    have htm := List.mem_of_find?_eq_some hf
    obtain ⟨x, hx, hxt⟩ := of_touch htm
    unfold isDecl stepAt at ht
    rw [hx] at ht
    simp only [Bool.and_eq_true, decide_eq_true_eq] at ht
    obtain ⟨⟨e1, e2⟩, e3⟩ := ht
    refine ⟨t.at', ⟨x, hx, ?_, e3⟩, fun p z hz hv hs => find_min (touch_sorted l) hf _ (hmem p z hz hv) (hdec p z hz hv hs), ?_⟩
    · rcases hxt with ⟨h3, _⟩ | ⟨_, h3, _⟩
      · rw [h3] at e2
        cases e2
      · rw [← h3, e1]
    · unfold localL
      rw [hf]
      rfl
/-- The span of a temporary value. -/
theorem temp_span (g : Good l xs) {v : Int} (hv : (xs.length : Int) ≤ v) {t : T3} (ht : t ∈ touchL l) (htv : t.v = v) :
    ∃ (d e : Nat), (∃ x, l[d]? = some x ∧ makesL x = v) ∧ spanS (atS (knownL xs.length l) v) v = ⟨v, (d : Int), (e : Int)⟩ ∧ d ≤ e ∧ e < l.length ∧ (∀ (p : Nat) (x : I9), l[p]? = some x → v ∈ readsL x → d < p ∧ p ≤ e) ∧ (∀ (p : Nat) (x : I9), l[p]? = some x → makesL x = v → p = d) := by
  have h0 : (0 : Int) ≤ v := by omega
  have hkn : atS (knownL xs.length l) v = ((touchL l).filter (fun t => decide (t.v = v))).foldl updS sn0 := know_at xs.length (touchL l) [] v hv
  obtain ⟨q1, q2, q3, q4⟩ := foldU ((touchL l).filter (fun t => decide (t.v = v))) sn0 ((touch_sorted l).filter _) (by simp [sn0]) (by simp [sn0])
  rw [← hkn] at q1 q2 q3 q4
  generalize atS (knownL xs.length l) v = s at *
  have hmf : ∀ u : T3, u ∈ (touchL l).filter (fun t => decide (t.v = v)) ↔ u ∈ touchL l ∧ u.v = v := fun u => by simp
  -- it is made somewhere
  have hmade : ∃ (q : Nat) (y : I9), l[q]? = some y ∧ makesL y = v := by
    obtain ⟨x, hx, h1 | ⟨_, h2, _⟩⟩ := of_touch ht
    · obtain ⟨q, y, _, hy, he⟩ := g.tmpR t.at' x hx v (by rw [← htv]; exact h1.2) hv
      exact ⟨q, y, hy, he⟩
    · exact ⟨t.at', x, hx, by rw [← h2, htv]⟩
  obtain ⟨d, y, hy, hym⟩ := hmade
  have hdt : (⟨v, d, true⟩ : T3) ∈ (touchL l).filter (fun t => decide (t.v = v)) := (hmf _).2 ⟨by have := mem_make hy (by omega); rwa [hym] at this, rfl⟩
  have hone : ∀ (p : Nat) (x : I9), l[p]? = some x → makesL x = v → p = d := fun p x hx he => g.once p d x y hx hy (by rw [he, hym]) (by rw [he]; exact hv)
  obtain ⟨m1, _⟩ := q3 _ hdt rfl
  have hsd : s.made = d := by
    rcases q4 m1 with ⟨h, _⟩ | ⟨u, hu, hum, hua⟩
    · simp [sn0] at h
    · obtain ⟨hu1, hu2⟩ := (hmf u).1 hu
      obtain ⟨x, hx, h1 | ⟨_, h2, _⟩⟩ := of_touch hu1
      · rw [hum] at h1
        cases h1.1
      · rw [← hua]
        exact hone u.at' x hx (by rw [← h2, hu2])
  have hread : ∀ (p : Nat) (x : I9), l[p]? = some x → v ∈ readsL x → d < p := fun p x hx hr => by
    obtain ⟨q, z, hq, hz, he⟩ := g.tmpR p x hx v hr hv
    have := hone q z hz he
    omega
  have hdl := (List.getElem?_eq_some_iff.1 hy).1
  by_cases hin : s.isIn = true
  · obtain ⟨u, hu, hum, hua⟩ : ∃ u ∈ (touchL l).filter (fun t => decide (t.v = v)), u.made = false ∧ u.at' = s.read := by
      rcases q2 hin with ⟨h, _⟩ | h
      · simp [sn0] at h
      · exact h
    obtain ⟨hu1, hu2⟩ := (hmf u).1 hu
    obtain ⟨x, hx, h1 | ⟨h1, _⟩⟩ := of_touch hu1
    · have hlt := hread u.at' x hx (by rw [← hu2]; exact h1.2)
      have hxl := (List.getElem?_eq_some_iff.1 hx).1
      refine ⟨d, s.read, ⟨y, hy, hym⟩, ?_, by omega, by omega, fun p x hx hr => ⟨hread p x hx hr, ?_⟩, hone⟩
      · unfold spanS
        simp [m1, hin, hsd]
      · exact (q1 ⟨v, p, false⟩ ((hmf _).2 ⟨mem_read hx hr, rfl⟩) rfl).2
    · rw [hum] at h1
      cases h1
  · refine ⟨d, d, ⟨y, hy, hym⟩, ?_, Nat.le_refl _, hdl, fun p x hx hr => ?_, hone⟩
    · unfold spanS
      simp [m1, hin, hsd]
    · exact absurd (q1 ⟨v, p, false⟩ ((hmf _).2 ⟨mem_read hx hr, rfl⟩) rfl).1 hin
end
end Go.Proofs.Ytfmkfmcplffhdaa

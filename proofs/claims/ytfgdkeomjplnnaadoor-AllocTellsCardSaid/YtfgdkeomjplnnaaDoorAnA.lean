/- How many spans meet, by sorted edges. No condition. -/
import Derived.Test.YtfgdkeomjplnnaaDoorAmE
namespace Go.Proofs.YtfgdkeomjplnnaaDoor
set_option linter.unusedVariables false
/-! How many spans meet. -/
structure Ed where
  p : Int
  m : Int
deriving DecidableEq
instance : Inhabited Ed := ⟨⟨0, 0⟩⟩
def edS (s : Sp) : List Ed := [⟨s.fr, 1⟩, ⟨enS s, -1⟩]
def edL (sp : List Sp) : List Ed := sp.flatMap edS
def sumE : List Ed → Int
  | [] => 0
  | e :: r => e.m + sumE r
theorem sumE_append : ∀ a b : List Ed, sumE (a ++ b) = sumE a + sumE b
  | [], b => by simp [sumE]
  | e :: r, b => by
    show e.m + sumE (r ++ b) = e.m + sumE r + sumE b
    rw [sumE_append r b]
    omega
theorem sumE_perm {a b : List Ed} (h : a.Perm b) : sumE a = sumE b := by
  induction h with
  | nil => rfl
  | cons x _ ih => show x.m + _ = x.m + _; rw [ih]
  | swap x y l => show y.m + (x.m + _) = x.m + (y.m + _); omega
  | trans _ _ h1 h2 => exact h1.trans h2
def mxE (E : List Ed) : Nat → Int
  | 0 => 0
  | k + 1 => max (mxE E k) (sumE (E.take (k + 1)))
theorem mxE_le (E : List Ed) (B : Int) (h0 : 0 ≤ B) (h : ∀ k, sumE (E.take k) ≤ B) : ∀ k, mxE E k ≤ B
  | 0 => h0
  | k + 1 => by
    have := mxE_le E B h0 h k
    have := h (k + 1)
    show max _ _ ≤ B
    omega
theorem mxE_ge (E : List Ed) : ∀ k j, j ≤ k → sumE (E.take j) ≤ mxE E k
  | 0, j, h => by
    obtain rfl : j = 0 := by omega
    exact Int.le_refl _
  | k + 1, j, h => by
    show _ ≤ max (mxE E k) (sumE (E.take (k + 1)))
    by_cases e : j = k + 1
    · rw [e]; omega
    · have := mxE_ge E k j (by omega)
      omega
def upTo (t : Int) (e : Ed) : Bool := decide (e.p ≤ t)
def covers (t : Int) (s : Sp) : Bool := decide (s.fr ≤ t ∧ t < enS s)
def cov (sp : List Sp) (t : Int) : Nat := sp.countP (covers t)
def mostF (sp : List Sp) : Nat := sp.foldl (fun m s => max m (cov sp s.fr)) 0
theorem foldl_max (f : Sp → Nat) : ∀ (l : List Sp) (m : Nat), m ≤ l.foldl (fun m s => max m (f s)) m ∧ (∀ s ∈ l, f s ≤ l.foldl (fun m s => max m (f s)) m) ∧ (l.foldl (fun m s => max m (f s)) m = m ∨ ∃ s ∈ l, l.foldl (fun m s => max m (f s)) m = f s)
  | [], m => ⟨Nat.le_refl _, (fun s hs => by cases hs), .inl rfl⟩
  | x :: r, m => by
    obtain ⟨h1, h2, h3⟩ := foldl_max f r (max m (f x))
    rw [List.foldl_cons]
    refine ⟨by omega, fun s hs => ?_, ?_⟩
    · rcases List.mem_cons.1 hs with rfl | hs
      · omega
      · exact h2 s hs
    · rcases h3 with h3 | ⟨s, hs, h3⟩
      · by_cases hm : f x ≤ m
        · left; rw [h3]; omega
        · right; exact ⟨x, by simp, by rw [h3]; omega⟩
      · right; exact ⟨s, List.mem_cons_of_mem _ hs, h3⟩
theorem cov_most {sp : List Sp} {s : Sp} (h : s ∈ sp) : cov sp s.fr ≤ mostF sp := (foldl_max (fun s => cov sp s.fr) sp 0).2.1 s h
theorem most_is (sp : List Sp) : mostF sp = 0 ∨ ∃ s ∈ sp, mostF sp = cov sp s.fr := (foldl_max (fun s => cov sp s.fr) sp 0).2.2
theorem enS_lt (s : Sp) : s.fr < enS s := by unfold enS; omega
/-- What is open at t, by the edges up to t. -/
theorem sum_upTo (t : Int) : ∀ sp : List Sp, sumE ((edL sp).filter (upTo t)) = (cov sp t : Int)
  | [] => rfl
  | s :: r => by
    have ih := sum_upTo t r
    have hl := enS_lt s
    unfold cov at ih ⊢
    show sumE ((edS s ++ edL r).filter (upTo t)) = _
    rw [List.filter_append, sumE_append, ih, List.countP_cons]
    by_cases h1 : s.fr ≤ t
    · have u1 : upTo t ⟨s.fr, 1⟩ = true := decide_eq_true h1
      by_cases h2 : enS s ≤ t
      · have u2 : upTo t ⟨enS s, -1⟩ = true := decide_eq_true h2
        have u3 : covers t s = false := decide_eq_false (by omega)
        unfold edS
        rw [List.filter_cons_of_pos u1, List.filter_cons_of_pos u2, u3]
        simp [sumE]
      · have u2 : ¬ upTo t ⟨enS s, -1⟩ = true := by unfold upTo; simpa using h2
        have u3 : covers t s = true := decide_eq_true (by omega)
        unfold edS
        rw [List.filter_cons_of_pos u1, List.filter_cons_of_neg u2, u3]
        simp [sumE]
        omega
    · have u1 : ¬ upTo t ⟨s.fr, 1⟩ = true := by unfold upTo; simpa using h1
      have u2 : ¬ upTo t ⟨enS s, -1⟩ = true := by unfold upTo; simp only [decide_eq_true_eq]; omega
      have u3 : covers t s = false := decide_eq_false (by omega)
      unfold edS
      rw [List.filter_cons_of_neg u1, List.filter_cons_of_neg u2, u3]
      simp [sumE]
def ltE (x y : Ed) : Bool := decide (x.p < y.p ∨ (x.p = y.p ∧ x.m < y.m))
def OnesE (E : List Ed) : Prop := ∀ e ∈ E, e.m = 1 ∨ e.m = -1
theorem edL_mem {sp : List Sp} {e : Ed} (h : e ∈ edL sp) : ∃ s ∈ sp, e = ⟨s.fr, 1⟩ ∨ e = ⟨enS s, -1⟩ := by
  obtain ⟨s, hs, he⟩ := List.mem_flatMap.1 h
  exact ⟨s, hs, by simpa [edS] using he⟩
theorem filter_all {E : List Ed} {f : Ed → Bool} (h : ∀ e ∈ E, f e = true) : E.filter f = E := List.filter_eq_self.2 h
theorem sum_nonneg : ∀ {E : List Ed}, (∀ e ∈ E, 0 ≤ e.m) → 0 ≤ sumE E
  | [], _ => Int.le_refl _
  | e :: r, h => by
    have h1 := h e (by simp)
    have h2 := sum_nonneg (E := r) (fun e he => h e (List.mem_cons_of_mem _ he))
    show 0 ≤ e.m + sumE r
    omega
theorem take_sum_le {sp : List Sp} {E : List Ed} (hp : E.Perm (edL sp)) (hs : E.Pairwise (fun x y => ltE y x = false)) : ∀ k, sumE (E.take k) ≤ (mostF sp : Int)
  | 0 => by simp [sumE]
  | k + 1 => by
    have ih := take_sum_le hp hs k
    by_cases hk : k < E.length
    · have hsplit : E.take (k + 1) = E.take k ++ [E[k]] := by rw [List.take_succ_eq_append_getElem hk]
      have hm := hp.mem_iff.1 (List.getElem_mem hk)
      obtain ⟨s, hs1, hs2⟩ := edL_mem hm
      rcases hs2 with he | he
      · -- a beginning
        have hcov := cov_most hs1
        have hA := sum_upTo s.fr sp
        rw [← sumE_perm (hp.filter (upTo s.fr)), ← List.take_append_drop (k + 1) E, List.filter_append, sumE_append] at hA
        have hall : (E.take (k + 1)).filter (upTo s.fr) = E.take (k + 1) := filter_all (fun x hx => by
          rw [hsplit] at hx
          unfold upTo
          rcases List.mem_append.1 hx with hx | hx
          · obtain ⟨j, hj, hj2⟩ := List.getElem_of_mem hx
            have hj3 : j < k := by have := hj; simp at this; omega
            have h1 := (List.pairwise_iff_getElem.1 hs) j k (by omega) hk hj3
            rw [List.getElem_take] at hj2
            rw [hj2, he] at h1
            unfold ltE at h1
            simp only [decide_eq_false_iff_not] at h1
            simp only [decide_eq_true_eq]
            omega
          · obtain rfl := List.mem_singleton.1 hx
            rw [he]
            simp)
        have hrest : 0 ≤ sumE ((E.drop (k + 1)).filter (upTo s.fr)) := sum_nonneg (fun x hx => by
          obtain ⟨hx1, hx2⟩ := List.mem_filter.1 hx
          obtain ⟨j, hj, hj2⟩ := List.getElem_of_mem hx1
          rw [List.getElem_drop] at hj2
          have hj3 : k + 1 + j < E.length := by simp at hj; omega
          have h1 := (List.pairwise_iff_getElem.1 hs) k (k + 1 + j) hk hj3 (by omega)
          rw [hj2, he] at h1
          unfold ltE at h1
          unfold upTo at hx2
          simp only [decide_eq_false_iff_not] at h1
          simp only [decide_eq_true_eq] at hx2
          have hmm := hp.mem_iff.1 (List.mem_of_mem_drop hx1)
          obtain ⟨s', _, h3⟩ := edL_mem hmm
          rcases h3 with h3 | h3
          · rw [h3]; show (0 : Int) ≤ 1; decide
          · rw [h3] at h1 hx2
            simp only at h1 hx2
            omega)
        rw [hall] at hA
        omega
      · rw [hsplit, sumE_append, he]
        show _ + (-1 + 0) ≤ _
        omega
    · rw [List.take_of_length_le (by omega)] at ih ⊢
      exact ih
/-- The sorted edges up to t are a beginning. -/
theorem upTo_take {E : List Ed} (hs : E.Pairwise (fun x y => ltE y x = false)) (t : Int) : ∃ k, k ≤ E.length ∧ E.filter (upTo t) = E.take k := by
  induction E with
  | nil => exact ⟨0, Nat.le_refl _, rfl⟩
  | cons e r ih =>
    obtain ⟨h1, h2⟩ := List.pairwise_cons.1 hs
    by_cases he : upTo t e = true
    · obtain ⟨k, hk, hk2⟩ := ih h2
      exact ⟨k + 1, by simp; omega, by rw [List.filter_cons_of_pos he, hk2]; rfl⟩
    · refine ⟨0, Nat.zero_le _, ?_⟩
      rw [List.filter_cons_of_neg he, List.take_zero, List.filter_eq_nil_iff]
      intro x hx hx2
      have := h1 x hx
      unfold ltE at this
      unfold upTo at he hx2
      simp only [decide_eq_false_iff_not] at this
      simp only [decide_eq_true_eq] at he hx2
      omega
theorem most_law {sp : List Sp} {E : List Ed} (hp : E.Perm (edL sp)) (hs : E.Pairwise (fun x y => ltE y x = false)) : mxE E E.length = (mostF sp : Int) := by
  have h1 := mxE_le E (mostF sp : Int) (by omega) (take_sum_le hp hs) E.length
  rcases most_is sp with h | ⟨s, _, h⟩
  · have := mxE_ge E E.length 0 (Nat.zero_le _)
    simp only [List.take_zero, sumE] at this
    omega
  · obtain ⟨k, hk, hk2⟩ := upTo_take hs s.fr
    have h2 := mxE_ge E E.length k hk
    rw [← hk2, sumE_perm (hp.filter _), sum_upTo] at h2
    omega
theorem edL_len (sp : List Sp) : (edL sp).length = 2 * sp.length := by
  induction sp with
  | nil => rfl
  | cons s r ih =>
    show (edS s ++ edL r).length = _
    rw [List.length_append, ih, List.length_cons]
    show 2 + _ = _
    omega
theorem mostF_le (sp : List Sp) : mostF sp ≤ sp.length := by
  rcases most_is sp with h | ⟨s, _, h⟩
  · omega
  · rw [h]; exact List.countP_le_length
/-- At no place more meet than at some beginning. -/
theorem cov_le_most (sp : List Sp) (t : Int) : cov sp t ≤ mostF sp := by
  by_cases h0 : cov sp t = 0
  · omega
  · have key : ∀ l : List Sp, (∃ s ∈ l, covers t s = true) → ∃ s ∈ l, covers t s = true ∧ ∀ x ∈ l, covers t x = true → x.fr ≤ s.fr := by
      intro l
      induction l with
      | nil => rintro ⟨s, hs, _⟩; cases hs
      | cons a r ih =>
        rintro ⟨s, hs, hc⟩
        by_cases hr : ∃ s ∈ r, covers t s = true
        · obtain ⟨b, hb, hb1, hb2⟩ := ih hr
          by_cases ha : covers t a = true ∧ b.fr < a.fr
          · refine ⟨a, by simp, ha.1, fun x hx hx2 => ?_⟩
            rcases List.mem_cons.1 hx with rfl | hx
            · exact Int.le_refl _
            · have := hb2 x hx hx2; omega
          · refine ⟨b, List.mem_cons_of_mem _ hb, hb1, fun x hx hx2 => ?_⟩
            rcases List.mem_cons.1 hx with rfl | hx
            · have : ¬ b.fr < x.fr := fun h => ha ⟨hx2, h⟩
              omega
            · exact hb2 x hx hx2
        · have : s = a := by
            rcases List.mem_cons.1 hs with h | h
            · exact h
            · exact absurd ⟨s, h, hc⟩ hr
          subst this
          refine ⟨s, by simp, hc, fun x hx hx2 => ?_⟩
          rcases List.mem_cons.1 hx with rfl | hx
          · exact Int.le_refl _
          · exact absurd ⟨x, hx, hx2⟩ hr
    have hex : ∃ s ∈ sp, covers t s = true := by
      have : 0 < sp.countP (covers t) := by unfold cov at h0; omega
      exact List.countP_pos_iff.1 this
    obtain ⟨s, hs, hc, hmax⟩ := key sp hex
    refine Nat.le_trans ?_ (cov_most hs)
    unfold cov
    refine List.countP_mono_left fun x hx hx2 => ?_
    have := hmax x hx hx2
    unfold covers at *
    simp only [decide_eq_true_eq] at *
    omega
/-! The places below m. -/
def mostTo (sp : List Sp) : Nat → Nat
  | 0 => 0
  | m + 1 => max (mostTo sp m) (cov sp m)
theorem mostTo_le (sp : List Sp) : ∀ m, mostTo sp m ≤ mostF sp
  | 0 => Nat.zero_le _
  | m + 1 => by
    have := mostTo_le sp m
    have := cov_le_most sp m
    show max _ _ ≤ _
    omega
theorem mostTo_ge (sp : List Sp) : ∀ m i : Nat, i < m → cov sp i ≤ mostTo sp m
  | 0, i, h => by omega
  | m + 1, i, h => by
    show _ ≤ max (mostTo sp m) (cov sp m)
    by_cases e : i = m
    · rw [e]; omega
    · have := mostTo_ge sp m i (by omega)
      omega
theorem mostTo_all {sp : List Sp} {m : Nat} (h : ∀ s ∈ sp, 0 ≤ s.fr ∧ s.fr < (m : Int)) : mostTo sp m = mostF sp := by
  have h1 := mostTo_le sp m
  rcases most_is sp with h0 | ⟨s, hs, h0⟩
  · omega
  · obtain ⟨k0, k1⟩ := h s hs
    have h2 := mostTo_ge sp m s.fr.toNat (by omega)
    rw [show ((s.fr.toNat : Nat) : Int) = s.fr by omega] at h2
    omega
theorem cov_range (sp : List Sp) (t : Int) : cov sp t = ((List.range sp.length).filter (fun i => decide (frS sp i ≤ t ∧ t < enI sp i))).length := by
  have hsp : sp = (List.range sp.length).map (fun i => (sp[i]?).getD ⟨0, 0, 0⟩) := by
    apply List.ext_getElem
    · simp
    · intro i h1 h2
      simp [List.getElem?_eq_getElem h1]
  unfold cov
  rw [← List.countP_eq_length_filter]
  conv => lhs; rw [hsp]
  rw [List.countP_map]
  apply List.countP_congr
  intro i hi
  have hil := List.mem_range.1 hi
  obtain ⟨e1, e2⟩ := enI_get (List.getElem?_eq_getElem hil)
  show covers t ((sp[i]?).getD ⟨0, 0, 0⟩) = true ↔ _
  rw [e1, e2, List.getElem?_eq_getElem hil]
  rfl
theorem cov_of {sp : List Sp} {t : Int} {J : List Nat} (hn : J.Nodup) (h : ∀ j ∈ J, j < sp.length ∧ frS sp j ≤ t ∧ t < enI sp j) : J.length ≤ cov sp t := by
  rw [cov_range]
  exact List.Nodup.length_le_of_subset hn (fun j hj => List.mem_filter.2 ⟨List.mem_range.2 (h j hj).1, by simpa using (h j hj).2⟩)
end Go.Proofs.YtfgdkeomjplnnaaDoor

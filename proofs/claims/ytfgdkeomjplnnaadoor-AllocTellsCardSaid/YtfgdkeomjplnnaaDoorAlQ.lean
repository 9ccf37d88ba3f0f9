/- The library's merging in place, plainly. No condition. -/
import Derived.Test.YtfgdkeomjplnnaaDoorAlO
namespace Go.Proofs.YtfgdkeomjplnnaaDoor
set_option linter.unusedVariables false
structure MergePre (sp : List Sp) (l : List Nat) (a m b : Nat) : Prop where
  s1 : SortedOn sp l a m
  s2 : SortedOn sp l m b
  cross : ∀ p q, a ≤ p → p < m → m ≤ q → q < b → gN l p < gN l q
  am : a < m
  mb : m < b
/-! One element at the left: it moves to the right. -/
def ShR (l : List Nat) (a k : Nat) (l' : List Nat) : Prop := l'.Perm l ∧ ∀ p, gN l' p = if a ≤ p ∧ p < k then gN l (p + 1) else if p = k then gN l a else gN l p
theorem ShR.start (l : List Nat) (a : Nat) : ShR l a a l := ⟨List.Perm.refl _, fun p => by
  rw [if_neg (by omega)]
  split
  · rename_i h; rw [h]
  · rfl⟩
theorem ShR.step {l m : List Nat} {a k : Nat} (h : ShR l a k m) (hak : a ≤ k) (hk : k + 1 < l.length) : ShR l a (k + 1) (exch m k (k + 1)) := by
  have hml := h.1.length_eq
  refine ⟨(exch_perm (by omega) (by omega)).trans h.1, fun p => ?_⟩
  rw [exch_gN (by omega) (by omega), h.2 p, h.2 k, h.2 (k + 1)]
  repeat' split
  all_goals first
    | (exfalso; omega)
    | rfl
    | (congr 1; omega)
theorem merge_left {sp : List Sp} {l l' : List Nat} {a b i : Nat} (h : MergePre sp l a (a + 1) b) (hi : a + 1 ≤ i) (hib : i ≤ b) (h1 : ∀ q, a + 1 ≤ q → q < i → frS sp (gN l q) < frS sp (gN l a)) (h2 : ∀ q, i ≤ q → q < b → ¬ frS sp (gN l q) < frS sp (gN l a)) (hS : ShR l a (i - 1) l') : SortR sp l a b l' := by
  refine ⟨hS.1, fun p hp => ?_, fun p q hp hpq hq => ?_, fun p hp hpb => ?_⟩
  · rw [hS.2 p, if_neg (by omega), if_neg (by omega)]
  · rw [hS.2 p, hS.2 q]
    by_cases c1 : p < i - 1
    · rw [if_pos (show a ≤ p ∧ p < i - 1 by omega)]
      by_cases c2 : q < i - 1
      · rw [if_pos (show a ≤ q ∧ q < i - 1 by omega)]
        exact h.s2 (p + 1) (q + 1) (by omega) (by omega) (by omega)
      · rw [if_neg (show ¬ (a ≤ q ∧ q < i - 1) by omega)]
        by_cases c3 : q = i - 1
        · rw [if_pos c3]
          exact .of_lt (h1 (p + 1) (by omega) (by omega))
        · rw [if_neg c3]
          exact h.s2 (p + 1) q (by omega) (by omega) hq
    · rw [if_neg (show ¬ (a ≤ p ∧ p < i - 1) by omega), if_neg (show ¬ (a ≤ q ∧ q < i - 1) by omega), if_neg (show ¬ q = i - 1 by omega)]
      by_cases c3 : p = i - 1
      · rw [if_pos c3]
        exact .of_not (h2 q (by omega) hq) (h.cross a q (Nat.le_refl _) (by omega) (by omega) hq)
      · rw [if_neg c3]
        exact h.s2 p q (by omega) hpq hq
  · rw [hS.2 p]
    by_cases c1 : p < i - 1
    · rw [if_pos (show a ≤ p ∧ p < i - 1 by omega)]
      exact ⟨p + 1, by omega, by omega, rfl⟩
    · rw [if_neg (show ¬ (a ≤ p ∧ p < i - 1) by omega)]
      by_cases c3 : p = i - 1
      · rw [if_pos c3]
        exact ⟨a, Nat.le_refl _, by omega, rfl⟩
      · rw [if_neg c3]
        exact ⟨p, hp, hpb, rfl⟩
/-! One element at the right: it moves to the left. -/
def ShL (l : List Nat) (m k : Nat) (l' : List Nat) : Prop := l'.Perm l ∧ ∀ p, gN l' p = if k < p ∧ p ≤ m then gN l (p - 1) else if p = k then gN l m else gN l p
theorem ShL.start (l : List Nat) (m : Nat) : ShL l m m l := ⟨List.Perm.refl _, fun p => by
  rw [if_neg (by omega)]
  split
  · rename_i h; rw [h]
  · rfl⟩
theorem ShL.step {l c : List Nat} {m k : Nat} (h : ShL l m (k + 1) c) (hk : k + 1 ≤ m) (hm : m < l.length) : ShL l m k (exch c (k + 1) k) := by
  have hml := h.1.length_eq
  refine ⟨(exch_perm (by omega) (by omega)).trans h.1, fun p => ?_⟩
  rw [exch_gN (by omega) (by omega), h.2 p, h.2 k, h.2 (k + 1)]
  repeat' split
  all_goals first
    | (exfalso; omega)
    | rfl
    | (congr 1; omega)
theorem merge_right {sp : List Sp} {l l' : List Nat} {a m i : Nat} (h : MergePre sp l a m (m + 1)) (hi : a ≤ i) (him : i ≤ m) (h1 : ∀ q, a ≤ q → q < i → ¬ frS sp (gN l m) < frS sp (gN l q)) (h2 : ∀ q, i ≤ q → q < m → frS sp (gN l m) < frS sp (gN l q)) (hS : ShL l m i l') : SortR sp l a (m + 1) l' := by
  refine ⟨hS.1, fun p hp => ?_, fun p q hp hpq hq => ?_, fun p hp hpb => ?_⟩
  · rw [hS.2 p, if_neg (by omega), if_neg (by omega)]
  · rw [hS.2 p, hS.2 q]
    by_cases c1 : i < p
    · rw [if_pos (show i < p ∧ p ≤ m by omega), if_pos (show i < q ∧ q ≤ m by omega)]
      exact h.s1 (p - 1) (q - 1) (by omega) (by omega) (by omega)
    · rw [if_neg (show ¬ (i < p ∧ p ≤ m) by omega)]
      by_cases c2 : p = i
      · rw [if_pos c2, if_pos (show i < q ∧ q ≤ m by omega)]
        exact .of_lt (h2 (q - 1) (by omega) (by omega))
      · rw [if_neg c2]
        by_cases c3 : i < q
        · rw [if_pos (show i < q ∧ q ≤ m by omega)]
          exact h.s1 p (q - 1) hp (by omega) (by omega)
        · rw [if_neg (show ¬ (i < q ∧ q ≤ m) by omega)]
          by_cases c4 : q = i
          · rw [if_pos c4]
            exact .of_not (h1 p hp (by omega)) (h.cross p m hp (by omega) (Nat.le_refl _) (by omega))
          · rw [if_neg c4]
            exact h.s1 p q hp hpq (by omega)
  · rw [hS.2 p]
    by_cases c1 : i < p
    · rw [if_pos (show i < p ∧ p ≤ m by omega)]
      exact ⟨p - 1, by omega, by omega, rfl⟩
    · rw [if_neg (show ¬ (i < p ∧ p ≤ m) by omega)]
      by_cases c2 : p = i
      · rw [if_pos c2]
        exact ⟨m, by omega, by omega, rfl⟩
      · rw [if_neg c2]
        exact ⟨p, hp, hpb, rfl⟩
/-! Both are longer: rotated about the middle. -/
theorem RotR.same {l : List Nat} {s m e : Nat} (h : s = m ∨ e = m) (h1 : s ≤ m) (h2 : m ≤ e) : RotR l s m e l := ⟨List.Perm.refl _, fun p => by
  repeat' split
  all_goals first
    | rfl
    | (exfalso; omega)
    | (congr 1; omega)⟩
/-- The places s and e at which the halves are parted. -/
structure CutAt (sp : List Sp) (l : List Nat) (a m b mid s e : Nat) : Prop where
  as0 : a ≤ s
  sm : s ≤ m
  me : m ≤ e
  eb : e ≤ b
  mid : mid + m = s + e
  low : a < s → e < b → ¬ frS sp (gN l e) < frS sp (gN l (s - 1))
  high : s < m → m < e → frS sp (gN l (e - 1)) < frS sp (gN l s)
theorem cut_pre1 {sp : List Sp} {l l1 : List Nat} {a m b mid s e : Nat} (h : MergePre sp l a m b) (hc : CutAt sp l a m b mid s e) (hR : RotR l s m e l1) : SortedOn sp l1 a s ∧ SortedOn sp l1 s mid ∧ (∀ p q, a ≤ p → p < s → s ≤ q → q < mid → gN l1 p < gN l1 q) := by
  obtain ⟨c1, c2, c3, c4, c5, _, _⟩ := hc
  refine ⟨fun p q h1 h2 h3 => ?_, fun p q h1 h2 h3 => ?_, fun p q h1 h2 h3 h4 => ?_⟩
  · rw [hR.2 p, hR.2 q, if_neg (by omega), if_neg (by omega), if_neg (by omega), if_neg (by omega)]
    exact h.s1 p q h1 h2 (by omega)
  · rw [hR.2 p, hR.2 q, if_pos (show s ≤ p ∧ p < s + (e - m) by omega), if_pos (show s ≤ q ∧ q < s + (e - m) by omega)]
    exact h.s2 _ _ (by omega) (by omega) (by omega)
  · rw [hR.2 p, hR.2 q, if_neg (show ¬ (s ≤ p ∧ p < s + (e - m)) by omega), if_neg (show ¬ (s + (e - m) ≤ p ∧ p < e) by omega), if_pos (show s ≤ q ∧ q < s + (e - m) by omega)]
    exact h.cross _ _ h1 (by omega) (by omega) (by omega)
theorem cut_pre2 {sp : List Sp} {l l1 l2 : List Nat} {a m b mid s e : Nat} (h : MergePre sp l a m b) (hc : CutAt sp l a m b mid s e) (hR : RotR l s m e l1) (h2 : ∀ p, mid ≤ p → gN l2 p = gN l1 p) : SortedOn sp l2 mid e ∧ SortedOn sp l2 e b ∧ (∀ p q, mid ≤ p → p < e → e ≤ q → q < b → gN l2 p < gN l2 q) := by
  obtain ⟨c1, c2, c3, c4, c5, _, _⟩ := hc
  refine ⟨fun p q h3 h4 h5 => ?_, fun p q h3 h4 h5 => ?_, fun p q h3 h4 h5 h6 => ?_⟩
  · rw [h2 p (by omega), h2 q (by omega), hR.2 p, hR.2 q, if_neg (show ¬ (s ≤ p ∧ p < s + (e - m)) by omega), if_pos (show s + (e - m) ≤ p ∧ p < e by omega), if_neg (show ¬ (s ≤ q ∧ q < s + (e - m)) by omega), if_pos (show s + (e - m) ≤ q ∧ q < e by omega)]
    exact h.s1 _ _ (by omega) (by omega) (by omega)
  · rw [h2 p (by omega), h2 q (by omega), hR.2 p, hR.2 q, if_neg (show ¬ (s ≤ p ∧ p < s + (e - m)) by omega), if_neg (show ¬ (s + (e - m) ≤ p ∧ p < e) by omega), if_neg (show ¬ (s ≤ q ∧ q < s + (e - m)) by omega), if_neg (show ¬ (s + (e - m) ≤ q ∧ q < e) by omega)]
    exact h.s2 _ _ (by omega) (by omega) (by omega)
  · rw [h2 p (by omega), h2 q (by omega), hR.2 p, hR.2 q, if_neg (show ¬ (s ≤ p ∧ p < s + (e - m)) by omega), if_pos (show s + (e - m) ≤ p ∧ p < e by omega), if_neg (show ¬ (s ≤ q ∧ q < s + (e - m)) by omega), if_neg (show ¬ (s + (e - m) ≤ q ∧ q < e) by omega)]
    exact h.cross _ _ (by omega) (by omega) (by omega) (by omega)
theorem srt_le {sp : List Sp} {l : List Nat} {a b p q : Nat} (h : SortedOn sp l a b) (h1 : a ≤ p) (h2 : p ≤ q) (h3 : q < b) {z : Nat} (hz : RB sp (gN l q) z) : RB sp (gN l p) z := by
  rcases Nat.lt_or_ge p q with hlt | hge
  · exact (h p q h1 hlt h3).trans hz
  · rw [show p = q by omega]; exact hz
theorem srt_ge {sp : List Sp} {l : List Nat} {a b p q : Nat} (h : SortedOn sp l a b) (h1 : a ≤ p) (h2 : p ≤ q) (h3 : q < b) {z : Nat} (hz : RB sp z (gN l p)) : RB sp z (gN l q) := by
  rcases Nat.lt_or_ge p q with hlt | hge
  · exact hz.trans (h p q h1 hlt h3)
  · rw [show q = p by omega]; exact hz
/-- What lies ahead of the middle is ahead of what lies behind it. -/
theorem cut_apart {sp : List Sp} {l l1 : List Nat} {a m b mid s e : Nat} (h : MergePre sp l a m b) (hc : CutAt sp l a m b mid s e) (hR : RotR l s m e l1) : ∀ p q, a ≤ p → p < mid → mid ≤ q → q < b → RB sp (gN l1 p) (gN l1 q) := by
  obtain ⟨c1, c2, c3, c4, c5, low, high⟩ := hc
  intro p q h1 h2 h3 h4
  rw [hR.2 p, hR.2 q, if_neg (show ¬ (s ≤ q ∧ q < s + (e - m)) by omega)]
  by_cases k1 : p < s
  · rw [if_neg (show ¬ (s ≤ p ∧ p < s + (e - m)) by omega), if_neg (show ¬ (s + (e - m) ≤ p ∧ p < e) by omega)]
    by_cases k2 : q < e
    · rw [if_pos (show s + (e - m) ≤ q ∧ q < e by omega)]
      exact h.s1 _ _ h1 (by omega) (by omega)
    · rw [if_neg (show ¬ (s + (e - m) ≤ q ∧ q < e) by omega)]
      have hx : RB sp (gN l (s - 1)) (gN l e) := .of_not (low (by omega) (by omega)) (h.cross _ _ (by omega) (by omega) c3 (by omega))
      exact srt_le h.s1 h1 (by omega) (by omega) (srt_ge h.s2 c3 (by omega) h4 hx)
  · rw [if_pos (show s ≤ p ∧ p < s + (e - m) by omega)]
    by_cases k2 : q < e
    · rw [if_pos (show s + (e - m) ≤ q ∧ q < e by omega)]
      have hx : RB sp (gN l (e - 1)) (gN l s) := .of_lt (high (by omega) (by omega))
      exact srt_le h.s2 (by omega) (show p + (m - s) ≤ e - 1 by omega) (by omega) (srt_ge h.s1 c1 (show s ≤ q - (e - m) by omega) (by omega) hx)
    · rw [if_neg (show ¬ (s + (e - m) ≤ q ∧ q < e) by omega)]
      exact h.s2 _ _ (by omega) (by omega) h4
theorem SortR.refl {sp : List Sp} {l : List Nat} {a b : Nat} (h : SortedOn sp l a b) : SortR sp l a b l := ⟨List.Perm.refl _, fun _ _ => rfl, h, fun p h1 h2 => ⟨p, h1, h2, rfl⟩⟩
theorem cut_join {sp : List Sp} {l l1 l2 l3 : List Nat} {a m b mid s e : Nat} (h : MergePre sp l a m b) (hc : CutAt sp l a m b mid s e) (hR : RotR l s m e l1) (h2 : SortR sp l1 a mid l2) (h3 : SortR sp l2 mid b l3) : SortR sp l a b l3 := by
  have hap := cut_apart h hc hR
  obtain ⟨c1, c2, c3, c4, c5, _, _⟩ := hc
  refine ⟨h3.1.trans (h2.1.trans hR.1), fun p hp => ?_, fun p q h4 h5 h6 => ?_, fun p h4 h5 => ?_⟩
  · rw [h3.2.1 p (by omega), h2.2.1 p (by omega), hR.2 p, if_neg (by omega), if_neg (by omega)]
  · by_cases k1 : q < mid
    · rw [h3.2.1 p (by omega), h3.2.1 q (by omega)]
      exact h2.2.2.1 p q h4 h5 k1
    · by_cases k2 : mid ≤ p
      · exact h3.2.2.1 p q k2 h5 h6
      · rw [h3.2.1 p (by omega)]
        obtain ⟨p', p1, p2, p3⟩ := h2.2.2.2 p h4 (by omega)
        obtain ⟨q', q1, q2, q3⟩ := h3.2.2.2 q (by omega) h6
        rw [p3, q3, h2.2.1 q' (by omega)]
        exact hap p' q' p1 p2 q1 q2
  · have key : ∀ r, a ≤ r → r < b → ∃ q, a ≤ q ∧ q < b ∧ gN l1 r = gN l q := fun r r1 r2 => by
      rw [hR.2 r]
      by_cases k1 : s ≤ r ∧ r < s + (e - m)
      · rw [if_pos k1]
        exact ⟨_, by omega, by omega, rfl⟩
      · rw [if_neg k1]
        by_cases k2 : s + (e - m) ≤ r ∧ r < e
        · rw [if_pos k2]
          exact ⟨_, by omega, by omega, rfl⟩
        · rw [if_neg k2]
          exact ⟨r, r1, r2, rfl⟩
    by_cases k1 : p < mid
    · rw [h3.2.1 p (by omega)]
      obtain ⟨p', p1, p2, p3⟩ := h2.2.2.2 p h4 k1
      obtain ⟨q, q1, q2, q3⟩ := key p' p1 (by omega)
      exact ⟨q, q1, q2, p3.trans q3⟩
    · obtain ⟨p', p1, p2, p3⟩ := h3.2.2.2 p (by omega) h5
      rw [h2.2.1 p' (by omega)] at p3
      obtain ⟨q, q1, q2, q3⟩ := key p' (by omega) p2
      exact ⟨q, q1, q2, p3.trans q3⟩
end Go.Proofs.YtfgdkeomjplnnaaDoor

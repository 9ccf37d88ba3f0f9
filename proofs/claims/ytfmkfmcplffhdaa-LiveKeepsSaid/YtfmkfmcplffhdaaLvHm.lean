/- ploverlaw19.homes, plainly: each span has the least home that no earlier span has that meets it. No condition but that the spans' values grow. -/
import Derived.Test.YtfmkfmcplffhdaaLvKp
import Derived.Test.YtfmkfmcplffhdaaMapX
namespace Go.Proofs.Ytfmkfmcplffhdaa
def meetB (a b : Sp3) : Bool := decide (a.fr < max b.till (b.fr + 1)) && decide (b.fr < max a.till (a.fr + 1))
theorem meetB_iff {a b : Sp3} : meetB a b = true ↔ meets a b := by simp [meetB, meets]
theorem meets_comm {a b : Sp3} (h : meets a b) : meets b a := ⟨h.2, h.1⟩
def hAt (K : List (Int × Int)) (v : Int) : Int := (getA K v).getD 0
theorem hAt_put (K : List (Int × Int)) (n v m : Int) : hAt (putA K n v) m = if n = m then v else hAt K m := by
  unfold hAt
  rw [getA_put]
  split <;> rfl
def takStep (K : List (Int × Int)) (a : Sp3) (T : List (Int × Int)) (b : Sp3) : List (Int × Int) := if meetB a b then putA T (hAt K b.v) 1 else T
def takTo (K : List (Int × Int)) (l : List Sp3) (a : Sp3) (k : Nat) : List (Int × Int) := (l.take k).foldl (takStep K a) []
theorem takTo_succ {K : List (Int × Int)} {l : List Sp3} {a b : Sp3} {k : Nat} (h : l[k]? = some b) : takTo K l a (k + 1) = takStep K a (takTo K l a k) b := by
  unfold takTo
  have e : l.take (k + 1) = l.take k ++ [b] := by rw [List.take_add_one, h]; rfl
  rw [e, List.foldl_append]
  rfl
theorem tak_fold {K : List (Int × Int)} {a : Sp3} {m : Int} : ∀ (L : List Sp3) (T : List (Int × Int)), (0 < hAt (L.foldl (takStep K a) T) m ↔ 0 < hAt T m ∨ ∃ b ∈ L, meetB a b = true ∧ hAt K b.v = m)
  | [], T => by simp
  | b :: L, T => by
    rw [List.foldl_cons, tak_fold L]
    unfold takStep
    by_cases h : meetB a b = true
    · rw [if_pos h, hAt_put]
      by_cases e : hAt K b.v = m
      · rw [if_pos e]
        exact ⟨fun _ => .inr ⟨b, List.mem_cons_self, h, e⟩, fun _ => .inl (by decide)⟩
      · rw [if_neg e]
        constructor
        · rintro (h1 | ⟨c, hc, h2⟩)
          · exact .inl h1
          · exact .inr ⟨c, List.mem_cons_of_mem _ hc, h2⟩
        · rintro (h1 | ⟨c, hc, h2⟩)
          · exact .inl h1
          · rcases List.mem_cons.1 hc with rfl | hc
            · exact absurd h2.2 e
            · exact .inr ⟨c, hc, h2⟩
    · rw [if_neg h]
      constructor
      · rintro (h1 | ⟨c, hc, h2⟩)
        · exact .inl h1
        · exact .inr ⟨c, List.mem_cons_of_mem _ hc, h2⟩
      · rintro (h1 | ⟨c, hc, h2⟩)
        · exact .inl h1
        · rcases List.mem_cons.1 hc with rfl | hc
          · exact absurd h2.1 h
          · exact .inr ⟨c, hc, h2⟩
theorem tak_iff {K : List (Int × Int)} {l : List Sp3} {a : Sp3} {k : Nat} {m : Int} : 0 < hAt (takTo K l a k) m ↔ ∃ b ∈ l.take k, meetB a b = true ∧ hAt K b.v = m := by
  unfold takTo
  rw [tak_fold]
  have : ¬ (0 < hAt [] m) := by show ¬ ((0 : Int) < 0); decide
  simp [this]
def freeFrom (T : List (Int × Int)) : Nat → Int → Int
  | 0, h => h
  | n + 1, h => if 0 < hAt T h then freeFrom T n (h + 1) else h
theorem free_spec (T : List (Int × Int)) : ∀ (n : Nat) (h : Int), h ≤ freeFrom T n h ∧ freeFrom T n h ≤ h + n ∧ (∀ j, h ≤ j → j < freeFrom T n h → 0 < hAt T j) ∧ (freeFrom T n h < h + n → ¬ 0 < hAt T (freeFrom T n h))
  | 0, h => by
    refine ⟨Int.le_refl _, by show h ≤ h + (0 : Nat); omega, fun j h1 h2 => ?_, fun h1 => ?_⟩
    · have : j < h := h2
      omega
    · have : h < h + ((0 : Nat) : Int) := h1
      omega
  | n + 1, h => by
    unfold freeFrom
    by_cases hp : 0 < hAt T h
    · rw [if_pos hp]
      obtain ⟨h1, h2, h3, h4⟩ := free_spec T n (h + 1)
      refine ⟨by omega, by omega, fun j j1 j2 => ?_, fun h5 => h4 (by omega)⟩
      by_cases e : j = h
      · rw [e]; exact hp
      · exact h3 j (by omega) j2
    · rw [if_neg hp]
      exact ⟨Int.le_refl _, by omega, fun j j1 j2 => by omega, fun _ => hp⟩
def homesTo (l : List Sp3) : Nat → List (Int × Int)
  | 0 => []
  | i + 1 => match l[i]? with
    | none => homesTo l i
    | some a => putA (homesTo l i) a.v (freeFrom (takTo (homesTo l i) l a i) i 0)
theorem homesTo_succ {l : List Sp3} {i : Nat} {a : Sp3} (h : l[i]? = some a) : homesTo l (i + 1) = putA (homesTo l i) a.v (freeFrom (takTo (homesTo l i) l a i) i 0) := by
  show (match l[i]? with | none => homesTo l i | some a => putA (homesTo l i) a.v (freeFrom (takTo (homesTo l i) l a i) i 0)) = _
  rw [h]
theorem homes_bd (l : List Sp3) : ∀ (i : Nat) (v : Int), 0 ≤ hAt (homesTo l i) v ∧ hAt (homesTo l i) v ≤ ((i - 1 : Nat) : Int)
  | 0, v => by
    show 0 ≤ (0 : Int) ∧ (0 : Int) ≤ _
    omega
  | i + 1, v => by
    have hi := homes_bd l i v
    cases h : l[i]? with
    | none =>
      have e : homesTo l (i + 1) = homesTo l i := by
        show (match l[i]? with | none => homesTo l i | some a => putA (homesTo l i) a.v (freeFrom (takTo (homesTo l i) l a i) i 0)) = _
        rw [h]
      rw [e]
      omega
    | some a =>
      rw [homesTo_succ h, hAt_put]
      obtain ⟨f1, f2, _, _⟩ := free_spec (takTo (homesTo l i) l a i) i 0
      split <;> omega
/- what the walk needs: the least free home is free, and all below are taken -/
theorem free_at {l : List Sp3} {i : Nat} {a : Sp3} : ¬ 0 < hAt (takTo (homesTo l i) l a i) (freeFrom (takTo (homesTo l i) l a i) i 0) := by
  obtain ⟨f1, f2, _, f4⟩ := free_spec (takTo (homesTo l i) l a i) i 0
  by_cases h : freeFrom (takTo (homesTo l i) l a i) i 0 < 0 + (i : Int)
  · exact f4 h
  · intro h1
    obtain ⟨b, hb, _, he⟩ := tak_iff.1 h1
    have h2 := (homes_bd l i b.v).2
    have h3 : 0 < i := by
      cases i with
      | zero => simp at hb
      | succ n => omega
    omega
theorem homes_apart {l : List Sp3} (hs : l.Pairwise (fun a b => a.v < b.v)) : ∀ (i : Nat), i ≤ l.length → ∀ a ∈ l.take i, ∀ b ∈ l.take i, a.v ≠ b.v → meets a b → hAt (homesTo l i) a.v ≠ hAt (homesTo l i) b.v
  | 0, _ => by simp
  | i + 1, hi => by
    intro a ha b hb hne hm
    have ih := homes_apart hs i (by omega)
    obtain ⟨x, hx⟩ : ∃ x, l[i]? = some x := ⟨l[i], List.getElem?_eq_getElem (by omega)⟩
    have e : l.take (i + 1) = l.take i ++ [x] := by rw [List.take_add_one, hx]; rfl
    have hlow : ∀ y ∈ l.take i, y.v < x.v := by
      intro y hy
      have h1 : (l.take (i + 1)).Pairwise (fun a b => a.v < b.v) := hs.sublist (List.take_sublist _ _)
      rw [e] at h1
      exact (List.pairwise_append.1 h1).2.2 y hy x (by simp)
    have hfree := free_at (l := l) (i := i) (a := x)
    have hx1 : ∀ y ∈ l.take i, meets x y → freeFrom (takTo (homesTo l i) l x i) i 0 ≠ hAt (homesTo l i) y.v := by
      intro y hy hmy he
      exact hfree (by rw [he]; exact tak_iff.2 ⟨y, hy, meetB_iff.2 hmy, rfl⟩)
    rw [homesTo_succ hx, hAt_put, hAt_put]
    rw [e] at ha hb
    rcases List.mem_append.1 ha with ka | ka <;> rcases List.mem_append.1 hb with kb | kb
    · have h1 := hlow a ka
      have h2 := hlow b kb
      rw [if_neg (by omega), if_neg (by omega)]
      exact ih a ka b kb hne hm
    · obtain rfl : b = x := by simpa using kb
      have h1 := hlow a ka
      rw [if_neg (by omega), if_pos rfl]
      exact fun h => hx1 a ka (meets_comm hm) h.symm
    · obtain rfl : a = x := by simpa using ka
      have h1 := hlow b kb
      rw [if_pos rfl, if_neg (by omega)]
      exact hx1 b kb hm
    · obtain rfl : a = x := by simpa using ka
      obtain rfl : b = a := by simpa using kb
      exact absurd rfl hne
def homesL (l : List Sp3) : List (Int × Int) := homesTo l l.length
theorem homes_law {l : List Sp3} (hs : l.Pairwise (fun a b => a.v < b.v)) : ∀ a ∈ l, ∀ b ∈ l, a.v ≠ b.v → meets a b → hAt (homesL l) a.v ≠ hAt (homesL l) b.v := by
  have h := homes_apart hs l.length (Nat.le_refl _)
  rw [List.take_length] at h
  exact h
end Go.Proofs.Ytfmkfmcplffhdaa

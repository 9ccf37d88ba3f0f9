/- When homes are apart, plainly; spans by their homes, as the map holds them. No condition. -/
import Derived.Test.YtfgdkeomjplnnaaDoorAnE
import Derived.Test.YtfgdkeomjplnnaaDoorAnB
import Derived.Test.YtfgdkeomjplnnaaDoorAmF
namespace Go.Proofs.YtfgdkeomjplnnaaDoor
set_option linter.unusedVariables false
open Go.RowKit
open Go.ChangeMaps (setBlock heap_setBlock_same heap_setBlock_other)
attribute [local irreducible] Blk
def meets (x y : Sp) : Prop := x.fr < enS y ∧ y.fr < enS x
instance (x y : Sp) : Decidable (meets x y) := by unfold meets; exact inferInstance
theorem meets_symm {x y : Sp} (h : meets x y) : meets y x := ⟨h.2, h.1⟩
def okHm (h : Hm) : Bool := !(decide (h.n < 0)) && (h.isSlot || decide (h.n < 6))
def apartZ (Z : List (Sp × Hm)) : Prop := Z.Pairwise (fun p q => p.2 = q.2 → ¬ meets p.1 q.1)
instance (Z : List (Sp × Hm)) : Decidable (apartZ Z) := by unfold apartZ; exact inferInstance
def apartB (sp : List Sp) (hs : List Hm) : Bool := decide (sp.length = hs.length ∧ (∀ h ∈ hs, okHm h = true) ∧ apartZ (sp.zip hs))
def selZ (Z : List (Sp × Hm)) (h : Hm) : List Sp := (Z.filter (fun p => decide (p.2 = h))).map (·.1)
def groupOk (L : List Sp) : Prop := L.Pairwise (fun x y => ¬ meets x y)
theorem selZ_app (Z : List (Sp × Hm)) (x : Sp) (h k : Hm) : selZ (Z ++ [(x, h)]) k = if h = k then selZ Z k ++ [x] else selZ Z k := by
  unfold selZ
  rw [List.filter_append, List.map_append]
  by_cases e : h = k
  · rw [if_pos e, List.filter_cons_of_pos (by simpa using e)]
    rfl
  · rw [if_neg e, List.filter_cons_of_neg (by simpa using e)]
    simp
theorem apart_groups (Z : List (Sp × Hm)) : apartZ Z ↔ ∀ h, (∃ x, (x, h) ∈ Z) → groupOk (selZ Z h) := by
  constructor
  · intro ha h _
    unfold groupOk selZ
    rw [List.pairwise_map]
    refine (List.Pairwise.filter _ ha).imp_of_mem fun {p q} hp hq hpq => hpq ?_
    have h1 := (List.mem_filter.1 hp).2
    have h2 := (List.mem_filter.1 hq).2
    simp only [decide_eq_true_eq] at h1 h2
    rw [h1, h2]
  · induction Z with
    | nil => intro _; exact List.Pairwise.nil
    | cons p r ih =>
      intro hg
      refine List.pairwise_cons.2 ⟨fun q hq he => ?_, ih fun h ⟨x, hx⟩ => ?_⟩
      · have := hg p.2 ⟨p.1, by simp⟩
        unfold groupOk selZ at this
        rw [List.filter_cons_of_pos (by simp), List.map_cons] at this
        exact (List.pairwise_cons.1 this).1 q.1 (List.mem_map.2 ⟨q, List.mem_filter.2 ⟨hq, by simp [he]⟩, rfl⟩)
      · have := hg h ⟨x, List.mem_cons_of_mem _ hx⟩
        unfold groupOk selZ at this ⊢
        rw [List.filter_cons] at this
        split at this
        · exact (List.pairwise_cons.1 this).2
        · exact this
/-- Of a sorted group: each ends where the next begins, at the latest. -/
theorem adj_ok {L : List Sp} (hs : L.Pairwise (fun x y => x.fr ≤ y.fr)) (ha : ∀ (q : Nat) (x y : Sp), L[q]? = some x → L[q + 1]? = some y → enS x ≤ y.fr) : groupOk L := by
  refine List.pairwise_iff_getElem.2 fun i j hi hj hij hm => ?_
  have h1 := ha i L[i] L[i + 1] (List.getElem?_eq_getElem hi) (List.getElem?_eq_getElem (by omega))
  have h2 : L[i + 1].fr ≤ L[j].fr := by
    by_cases e : i + 1 = j
    · subst e; exact Int.le_refl _
    · exact (List.pairwise_iff_getElem.1 hs) (i + 1) j (by omega) hj (by omega)
  have := hm.2
  omega
theorem adj_bad {L : List Sp} (hs : L.Pairwise (fun x y => x.fr ≤ y.fr)) {q : Nat} {x y : Sp} (hx : L[q]? = some x) (hy : L[q + 1]? = some y) (hb : y.fr < enS x) : ¬ groupOk L := fun hg => by
  obtain ⟨i1, e1⟩ := List.getElem?_eq_some_iff.1 hx
  obtain ⟨i2, e2⟩ := List.getElem?_eq_some_iff.1 hy
  have h1 := (List.pairwise_iff_getElem.1 hg) q (q + 1) i1 i2 (by omega)
  have h2 := (List.pairwise_iff_getElem.1 hs) q (q + 1) i1 i2 (by omega)
  rw [e1, e2] at h1 h2
  exact h1 ⟨by have := enS_lt y; omega, hb⟩
theorem group_perm {L L' : List Sp} (h : L'.Perm L) : groupOk L' ↔ groupOk L := h.pairwise_iff (fun {x y} hn hm => hn (meets_symm hm))
/-! The groups in the map. -/
structure GInv (w : World) (B : Nat) (Z : List (Sp × Hm)) (G : List (Hm × Value)) : Prop where
  nd : (G.map (·.1)).Nodup
  keys : OkKeys G
  row : ∀ p ∈ G, selZ Z p.1 ≠ [] ∧ w.ownsRow B 32 3 p.2 (selZ Z p.1).length (spCells (selZ Z p.1))
  all : ∀ p ∈ Z, ∃ v, (p.2, v) ∈ G
  sep : G.Pairwise (fun p q => ∀ j, p.2.ownBlock = some j → q.2.ownBlock ≠ some j)
theorem GInv.nil (w : World) (B : Nat) : GInv w B [] [] := ⟨by simp, (fun p hp => by cases hp), (fun p hp => by cases hp), (fun p hp => by cases hp), List.Pairwise.nil⟩
section
variable {w w' : World} {B : Nat} {Z : List (Sp × Hm)} {G : List (Hm × Value)} {S : Nat → Prop}
theorem GInv.kept (h : GInv w B Z G) (hk : Keep w w' S) (hS : ∀ k, B ≤ k → ¬ S k) : GInv w' B Z G :=
  ⟨h.nd, h.keys, fun p hp => ⟨(h.row p hp).1, Keep.row hk (h.row p hp).2 (fun k hv => hS k ((h.row p hp).2.lt k hv).1)⟩, h.all, h.sep⟩
theorem GInv.set {x : Sp} {hm : Hm} {v v' : Value} {j : Nat} (h : GInv w B Z G) (hk : Keep w w' (fun k => k < B ∨ v.ownBlock = some k)) (hj : G[j]? = some (hm, v))
    (hown : w'.ownsRow B 32 3 v' ((selZ Z hm).length + 1) (spCells (selZ Z hm) ++ x.arr.toList)) (hloc : ∀ g, v'.ownBlock = some g → v.ownBlock = some g ∨ w.heap.size ≤ g) : GInv w' B (Z ++ [(x, hm)]) (G.set j (hm, v')) := by
  have hjl := (List.getElem?_eq_some_iff.1 hj).1
  have hkeys : (G.set j (hm, v')).map (·.1) = G.map (·.1) := by
    apply List.ext_getElem?
    intro k
    rw [List.getElem?_map, List.getElem?_map, List.getElem?_set]
    by_cases e : j = k
    · subst e; rw [hj]; simp [hjl]
    · rw [if_neg e]
  have hoth : ∀ (k : Nat) (p : Hm × Value), G[k]? = some p → k ≠ j → p.1 ≠ hm ∧ (∀ g, p.2.ownBlock = some g → v.ownBlock ≠ some g) := fun k p hp hkj => by
    refine ⟨fun e => hkj ?_, fun g hg hv => ?_⟩
    · have a1 : (G.map (·.1))[k]? = some hm := by rw [List.getElem?_map, hp, ← e]; rfl
      have a2 : (G.map (·.1))[j]? = some hm := by rw [List.getElem?_map, hj]; rfl
      exact (List.getElem?_inj (List.getElem?_eq_some_iff.1 a1).1 h.nd).1 (a1.trans a2.symm)
    · obtain ⟨kl, ek⟩ := List.getElem?_eq_some_iff.1 hp
      obtain ⟨_, ej⟩ := List.getElem?_eq_some_iff.1 hj
      rcases Nat.lt_or_gt_of_ne hkj with hlt | hlt
      · have := (List.pairwise_iff_getElem.1 h.sep) k j kl hjl hlt g (by rw [ek]; exact hg)
        rw [ej] at this
        exact this hv
      · have := (List.pairwise_iff_getElem.1 h.sep) j k hjl kl hlt g (by rw [ej]; exact hv)
        rw [ek] at this
        exact this hg
  have hmem : ∀ p ∈ G.set j (hm, v'), p = (hm, v') ∨ ∃ k, G[k]? = some p ∧ k ≠ j := fun p hp => by
    obtain ⟨k, hk⟩ := List.getElem?_of_mem hp
    rw [List.getElem?_set] at hk
    by_cases e : j = k
    · rw [if_pos e, if_pos hjl] at hk
      exact .inl (Option.some.inj hk).symm
    · rw [if_neg e] at hk
      exact .inr ⟨k, hk, fun e2 => e e2.symm⟩
  refine ⟨by rw [hkeys]; exact h.nd, fun p hp => ?_, fun p hp => ?_, fun p hp => ?_, ?_⟩
  · rcases hmem p hp with rfl | ⟨k, hk2, _⟩
    · exact h.keys (hm, v) (List.mem_of_getElem? hj)
    · exact h.keys p (List.mem_of_getElem? hk2)
  · rcases hmem p hp with rfl | ⟨k, hk2, hkj⟩
    · rw [selZ_app, if_pos rfl]
      refine ⟨by simp, ?_⟩
      rw [List.length_append, spCells_append]
      have : spCells [x] = x.arr.toList := by simp [spCells]
      rw [this]
      exact hown
    · obtain ⟨k1, k2⟩ := hoth k p hk2 hkj
      rw [selZ_app, if_neg (Ne.symm k1)]
      have := h.row p (List.mem_of_getElem? hk2)
      refine ⟨this.1, Keep.row hk this.2 (fun g hg => ?_)⟩
      have hB := (this.2.lt g hg).1
      rintro (h1 | h1)
      · omega
      · exact k2 g hg h1
  · rcases List.mem_append.1 hp with hp | hp
    · obtain ⟨v0, hv0⟩ := h.all p hp
      obtain ⟨k, hk2⟩ := List.getElem?_of_mem hv0
      by_cases e : k = j
      · subst e
        rw [hj] at hk2
        refine ⟨v', List.mem_of_getElem? (i := k) ?_⟩
        rw [List.getElem?_set]
        simp only [Option.some.injEq, Prod.mk.injEq] at hk2
        simp [hjl, hk2.1]
      · exact ⟨v0, List.mem_of_getElem? (i := k) (by rw [List.getElem?_set_ne (Ne.symm e)]; exact hk2)⟩
    · obtain rfl := List.mem_singleton.1 hp
      exact ⟨v', List.mem_of_getElem? (i := j) (by rw [List.getElem?_set]; simp [hjl])⟩
  · have key : ∀ (k : Nat) (p : Hm × Value), G[k]? = some p → k ≠ j → ∀ g, p.2.ownBlock = some g → v'.ownBlock ≠ some g := fun k p hp hkj g hg hv => by
      rcases hloc g hv with h1 | h1
      · exact (hoth k p hp hkj).2 g hg h1
      · have := ((h.row p (List.mem_of_getElem? hp)).2.lt g hg).2
        omega
    refine List.pairwise_iff_getElem.2 fun a b ha hb hab g hg => ?_
    rw [List.length_set] at ha hb
    rw [List.getElem_set] at hg
    rw [List.getElem_set]
    by_cases ea : j = a
    · subst ea
      rw [if_pos rfl] at hg
      rw [if_neg (by omega)]
      exact fun h2 => key b _ (List.getElem?_eq_getElem hb) (by omega) g h2 hg
    · rw [if_neg ea] at hg
      by_cases eb : j = b
      · subst eb
        rw [if_pos rfl]
        exact key a _ (List.getElem?_eq_getElem ha) (by omega) g hg
      · rw [if_neg eb]
        exact (List.pairwise_iff_getElem.1 h.sep) a b ha hb hab g hg
theorem GInv.push {x : Sp} {hm : Hm} {v' : Value} (h : GInv w B Z G) (hk : Keep w w' (fun k => k < B)) (habs : ∀ p ∈ G, p.1 ≠ hm) (hw : (Lit.int .i64 hm.n).wf = true)
    (hown : w'.ownsRow B 32 3 v' 1 x.arr.toList) (hloc : ∀ g, v'.ownBlock = some g → w.heap.size ≤ g) : GInv w' B (Z ++ [(x, hm)]) (G ++ [(hm, v')]) := by
  have hnil : selZ Z hm = [] := by
    unfold selZ
    rw [List.map_eq_nil_iff, List.filter_eq_nil_iff]
    intro p hp he
    obtain ⟨v0, hv0⟩ := h.all p hp
    exact habs _ hv0 (by simpa using he)
  refine ⟨?_, fun p hp => ?_, fun p hp => ?_, fun p hp => ?_, ?_⟩
  · rw [List.map_append, List.nodup_append]
    refine ⟨h.nd, by simp, fun a ha c hc e => ?_⟩
    obtain ⟨p, hp, rfl⟩ := List.mem_map.1 ha
    obtain rfl : c = hm := by simpa using hc
    exact habs p hp e
  · rcases List.mem_append.1 hp with hp | hp
    · exact h.keys p hp
    · obtain rfl := List.mem_singleton.1 hp
      exact hw
  · rcases List.mem_append.1 hp with hp | hp
    · rw [selZ_app, if_neg (fun e => habs p hp e.symm)]
      exact ⟨(h.row p hp).1, Keep.row hk (h.row p hp).2 (fun g hg => by have := ((h.row p hp).2.lt g hg).1; omega)⟩
    · obtain rfl := List.mem_singleton.1 hp
      rw [selZ_app, if_pos rfl, hnil]
      refine ⟨by simp, ?_⟩
      have : spCells ([] ++ [x]) = x.arr.toList := by simp [spCells]
      rw [this]
      exact hown
  · rcases List.mem_append.1 hp with hp | hp
    · obtain ⟨v0, hv0⟩ := h.all p hp
      exact ⟨v0, List.mem_append_left _ hv0⟩
    · obtain rfl := List.mem_singleton.1 hp
      exact ⟨v', by simp⟩
  · refine List.pairwise_append.2 ⟨h.sep, List.pairwise_singleton _ _, fun p hp q hq g hg hv => ?_⟩
    obtain rfl := List.mem_singleton.1 hq
    have h1 := hloc g hv
    have := ((h.row p hp).2.lt g hg).2
    omega
end
end Go.Proofs.YtfgdkeomjplnnaaDoor

/- AllocMoves: spans that are moved and stretched get the same homes: the lists of spans, plainly. No condition. -/
import Derived.Test.YtfgdkeomjplnnaaDoorAmD
import Derived.Test.YtfgdkeomjplnnaaDoorAmF
import Derived.Test.YtfgdkeomjplnnaaDoorAmG
namespace Go.Proofs.YtfgdkeomjplnnaaDoor
set_option linter.unusedVariables false
open Go.RowKit
def spanM (l : List P2) (i : Nat) : Sp := ⟨i, (p2At l i).a, (p2At l i).a + 1 + (p2At l i).b⟩
def spanT (l : List P2) (by' tm : Int) (i : Nat) : Sp := ⟨100 - i, (p2At l i).a * (1 + tm) + by', ((p2At l i).a + 1 + (p2At l i).b) * (1 + tm) + by'⟩
def farL (l : List P2) : Nat → Int
  | 0 => 1
  | k + 1 => max (farL l k) ((p2At l k).a + 1 + (p2At l k).b)
theorem farL_le {l : List P2} {n : Nat} : ∀ k, k ≤ n → ∀ i, i < k → (p2At l i).a + 1 + (p2At l i).b ≤ farL l k
  | 0, _, i, hi => by omega
  | k + 1, hk, i, hi => by
    unfold farL
    by_cases e : i = k
    · rw [e]; omega
    · have := farL_le (l := l) (n := n) k (by omega) i (by omega)
      omega
theorem p2_ok {l : List P2} (hok : ∀ x ∈ l, OkP2 x) {i : Nat} (hi : i < l.length) : OkP2 (p2At l i) := by
  have hg := List.getElem?_eq_getElem hi
  rw [p2At_of hg]
  exact hok _ (List.getElem_mem hi)
theorem far_bd {l : List P2} (hok : ∀ x ∈ l, OkP2 x) : ∀ k, k ≤ l.length → 1 ≤ farL l k ∧ farL l k ≤ 1000
  | 0, _ => by unfold farL; omega
  | k + 1, hk => by
    have ih := far_bd hok k (by omega)
    have := p2_ok hok (show k < l.length by omega)
    unfold OkP2 at this
    unfold farL
    omega
theorem spM_get {l : List P2} {n i : Nat} (hi : i < n) : frS (spsTo (spanM l) n) i = (p2At l i).a ∧ enI (spsTo (spanM l) n) i = max ((p2At l i).a + 1 + (p2At l i).b) ((p2At l i).a + 1) := by
  obtain ⟨h1, h2⟩ := enI_get (spsTo_get (f := spanM l) hi)
  exact ⟨h2, h1⟩
theorem spT_get {l : List P2} {by' tm : Int} {n i : Nat} (hi : i < n) : frS (spsTo (spanT l by' tm) n) i = (p2At l i).a * (1 + tm) + by' ∧ enI (spsTo (spanT l by' tm) n) i = max (((p2At l i).a + 1 + (p2At l i).b) * (1 + tm) + by') ((p2At l i).a * (1 + tm) + by' + 1) := by
  obtain ⟨h1, h2⟩ := enI_get (spsTo_get (f := spanT l by' tm) hi)
  exact ⟨h2, h1⟩
theorem mul_lt {a b k : Int} (hk : 0 < k) : a * k < b * k ↔ a < b := Int.mul_lt_mul_right hk
theorem moved {l : List P2} (hok : ∀ x ∈ l, OkP2 x) {by' tm : Int} (ht : 0 ≤ tm) {n : Nat} (hn : n ≤ l.length) : Alike (spsTo (spanM l) n) (spsTo (spanT l by' tm) n) := by
  have hk : 0 < 1 + tm := by omega
  have key : ∀ i, i < n → enI (spsTo (spanM l) n) i = (p2At l i).a + 1 + (p2At l i).b ∧ enI (spsTo (spanT l by' tm) n) i = ((p2At l i).a + 1 + (p2At l i).b) * (1 + tm) + by' := fun i hi => by
    have ho := p2_ok hok (show i < l.length by omega)
    unfold OkP2 at ho
    rw [(spM_get hi).2, (spT_get hi).2]
    have e := (mul_lt (a := (p2At l i).a) (b := (p2At l i).a + 1 + (p2At l i).b) hk).2 (by omega)
    omega
  refine ⟨by rw [spsTo_len, spsTo_len], fun i j hi hj => ?_, fun i j hi hj => ?_, fun i j hi hj => ?_⟩
  all_goals
    rw [spsTo_len] at hi hj
  · rw [(spM_get hi).1, (spM_get hj).1, (spT_get hi).1, (spT_get hj).1]
    have := mul_lt (a := (p2At l i).a) (b := (p2At l j).a) hk
    omega
  · rw [(key j hj).1, (key j hj).2, (spM_get hi).1, (spT_get hi).1]
    have := mul_lt (a := (p2At l i).a) (b := (p2At l j).a + 1 + (p2At l j).b) hk
    omega
  · rw [(key i hi).1, (key i hi).2, (key j hj).1, (key j hj).2]
    have := mul_lt (a := (p2At l i).a + 1 + (p2At l i).b) (b := (p2At l j).a + 1 + (p2At l j).b) hk
    omega
theorem behind {l : List P2} (hok : ∀ x ∈ l, OkP2 x) {n : Nat} (hn : n ≤ l.length) : ∀ i, i < (spsTo (spanM l) n).length → enI (spsTo (spanM l) n) i ≤ farL l n ∧ frS (spsTo (spanM l) n) i < farL l n := fun i hi => by
  rw [spsTo_len] at hi
  have ho := p2_ok hok (show i < l.length by omega)
  unfold OkP2 at ho
  have := farL_le (l := l) (n := n) n (Nat.le_refl _) i hi
  rw [(spM_get hi).2, (spM_get hi).1]
  omega
end Go.Proofs.YtfgdkeomjplnnaaDoor

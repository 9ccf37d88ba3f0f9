/- A region that draws its order, of which the first operations only read, while the last few wait for all of them, and one for another: one walk in the text's order serves every order. No condition. -/
import Derived.Test.YtfgdkeomjplnnaaDoorLvQl
import Derived.StillTail
namespace Go.Proofs.YtfgdkeomjplnnaaDoor
set_option linter.unusedVariables false
/-- An operation that does nothing, and hands nothing on, in the place of one of the last. -/
def idleT (o : Oper) : Oper := { o with op := .assign (.const undef), dst := none, guard := none }
section
variable {P : Program} {ops ops0 : Array Oper} {md : Region.Mode} {C : World → Prop} {Q : Exit → Act → World → Prop} {n : Nat}
theorem idle_end {Q' : Act → Prop} (hrd : ∀ listed, Region.ready md ops0 listed = Region.ready md ops listed) (hid : ∀ k o, n ≤ k → ops0[k]? = some o → o.dst = none ∧ o.guard = none) :
    ∀ (g k : Nat) (listed : Array Bool) (fuel : Nat) (a : Act), n ≤ k → Region.seqB md ops g k listed = true → wpAnyQ P md ops0 C Q' fuel listed a → Q' a
  | 0, k, listed, fuel, a, _, hB, h => by
    have hnil : Region.ready md ops0 listed = [] := by rw [hrd]; simpa [Region.seqB] using hB
    cases fuel with
    | zero => exact h.2
    | succ f => exact h.1 hnil
  | g + 1, k, listed, fuel, a, hk, hB, h => by
    simp only [Region.seqB, Bool.and_eq_true, decide_eq_true_eq] at hB
    cases fuel with
    | zero =>
      have h1 := h.1
      rw [hrd, hB.1] at h1
      cases h1
    | succ f =>
      have hq := h.2 k (by rw [hrd, hB.1]; simp)
      unfold qOp at hq
      cases ho : ops0[k]? with
      | none =>
        rw [ho] at hq
        exact idle_end hrd hid g (k + 1) _ f a (by omega) hB.2 hq
      | some o =>
        obtain ⟨hd, hg⟩ := hid k o hk ho
        rw [ho] at hq
        simp only at hq
        rw [if_pos (show Region.wanted o _ = true by unfold Region.wanted; rw [hg])] at hq
        obtain ⟨v, _, hq2⟩ := hq
        rw [hd] at hq2
        exact idle_end hrd hid g (k + 1) _ f a (by omega) hB.2 hq2
theorem tail_run {Q' : Act → Prop} (hrd : ∀ listed, Region.ready md ops0 listed = Region.ready md ops listed) :
    ∀ (l : List Oper) (k : Nat) (listed : Array Bool) (fuel : Nat) (aq a : Act) (w : World), (∀ j, l[j]? = ops[k + j]?) → Region.seqB md ops l.length k listed = true → wpAnyQ P md ops0 C Q' fuel listed aq → wpList P ops Q l a w → wpAny P md ops Q fuel listed a w
  | [], k, listed, fuel, aq, a, w, _, hB, _, h => by
    have hnil : Region.ready md ops listed = [] := by simpa [Region.seqB] using hB
    cases fuel with
    | zero => exact ⟨hnil, h⟩
    | succ f => exact ⟨fun _ => h, fun i hi => by rw [hnil] at hi; cases hi⟩
  | o :: l, k, listed, fuel, aq, a, w, hl, hB, hq, h => by
    have h0 : ops[k]? = some o := by simpa using (hl 0).symm
    simp only [List.length_cons, Region.seqB, Bool.and_eq_true, decide_eq_true_eq] at hB
    cases fuel with
    | zero =>
      have h1 := hq.1
      rw [hrd, hB.1] at h1
      cases h1
    | succ f =>
      refine ⟨fun h1 => (by rw [hB.1] at h1; cases h1), fun i hi => ?_⟩
      rw [hB.1] at hi
      have hik : i = k := by simpa using hi
      subst hik
      have hq1 := hq.2 i (by rw [hrd, hB.1]; simp)
      obtain ⟨aq', hq2⟩ : ∃ aq', wpAnyQ P md ops0 C Q' f (listed.setIfInBounds i true) aq' := by
        unfold qOp at hq1
        split at hq1
        · exact ⟨_, hq1⟩
        · split at hq1
          · obtain ⟨v, _, h3⟩ := hq1
            exact ⟨_, h3⟩
          · exact ⟨_, hq1⟩
      have hw : wpOp P ops Q i (wpList P ops Q l) a w := by unfold wpOp; simp only [h0]; exact h
      exact wpOp_mono (fun a' w' h' => tail_run hrd l (i + 1) _ f aq' a' w' (fun j => by have := hl (j + 1); simpa [Nat.add_assoc, Nat.add_comm 1 j] using this) hB.2 hq2 h') hw
theorem any_tail (hne : ∀ i : Nat, i < n → ops0[i]? = ops[i]?) (hrd : ∀ listed, Region.ready md ops0 listed = Region.ready md ops listed) (hyl : ∀ (i : Nat) o t, i < n → ops[i]? = some o → Region.wanted o (yielded ops0 t) = Region.wanted o (yielded ops t))
    (hid : ∀ k o, n ≤ k → ops0[k]? = some o → o.dst = none ∧ o.guard = none) (hn : n < ops.size) (hlate : lateB md ops n = true) (hchain : Region.chainB md ops n = true)
    (hseq : Region.seqB md ops (ops.size - n) n (List.replicate n true ++ List.replicate (ops.size - n) false).toArray = true) :
    ∀ (fuel : Nat) (listed : Array Bool) (a : Act) (w : World), listed.size = ops.size → Closed md ops listed → (∀ j, n ≤ j → listed.getD j false = false) → C w →
      wpAnyQ P md ops0 C (fun a' => ∀ w', C w' → wpList P ops Q (ops.toList.drop n) a' w') fuel listed a → wpAny P md ops Q fuel listed a w := by
  intro fuel
  induction fuel with
  | zero =>
    intro listed a w hs hc hu hw h
    have h1 := h.1
    rw [hrd] at h1
    exact absurd h1 (ready_some hlate hs (n + 1) n (by omega) (by omega) (getD_in (by omega) (hu n (Nat.le_refl _))))
  | succ fuel ih =>
    intro listed a w hs hc hu hw h
    refine ⟨fun h1 => absurd h1 (ready_some hlate hs (n + 1) n (by omega) (by omega) (getD_in (by omega) (hu n (Nat.le_refl _)))), fun i hi => ?_⟩
    have hi0 : i ∈ Region.ready md ops0 listed := by rw [hrd]; exact hi
    have hq := h.2 i hi0
    by_cases hin : i < n
    · have hu2 : ∀ j, n ≤ j → (listed.setIfInBounds i true).getD j false = false := fun j hj => by rw [getD_set_ne false (by omega)]; exact hu j hj
      have h2 := wpOp_of_qOp (P := P) (Q' := Q) (w := w) (K' := wpAny P md ops Q fuel (listed.setIfInBounds i true)) hw (fun a' w' hw' hh => ih _ a' w' (by simpa using hs) (hc.set hi) hu2 hw' hh) hq
      unfold wpOp at h2 ⊢
      rw [hne i hin] at h2
      cases ho : ops[i]? with
      | none => rw [ho] at h2; exact h2
      | some oi =>
        rw [ho] at h2
        simp only [hyl i oi _ hin ho] at h2
        exact h2
    · by_cases hik : i = n
      · subst hik
        have hall := all_listed hlate hc hi (i + 1)
        have hL : listed = (List.replicate i true ++ List.replicate (ops.size - i) false).toArray := by
          apply Array.ext
          · simp; omega
          · intro j h1 h2
            by_cases hj : j < i
            · have := hall j hj (by omega)
              simp only [Array.getD_eq_getD_getElem?, Array.getElem?_eq_getElem h1, Option.getD_some] at this
              simp [this, hj]
            · have := hu j (by omega)
              simp only [Array.getD_eq_getD_getElem?, Array.getElem?_eq_getElem h1, Option.getD_some] at this
              simp [this, List.getElem_append, hj]
        have hS : Region.seqB md ops (ops.size - i) i listed = true := by rw [hL]; exact hseq
        have hQ := idle_end hrd hid (ops.size - i) i listed (fuel + 1) a (Nat.le_refl _) hS h
        have hlen : (ops.toList.drop i).length = ops.size - i := by simp
        have := tail_run (Q := Q) hrd (ops.toList.drop i) i listed (fuel + 1) a a w (fun j => by simp) (by rw [hlen]; exact hS) h (hQ w hw)
        exact this.2 i hi
      · exfalso
        obtain ⟨h1, oi, ho, h3⟩ := mem_ready.1 hi
        have his : i < ops.size := (Array.getElem?_eq_some_iff.1 ho).1
        have hc1 := List.all_eq_true.1 hchain i (List.mem_range.2 his)
        have hc2 : Region.waitsFor md ops i (i - 1) = true := by
          rcases Bool.or_eq_true_iff.1 hc1 with h | h
          · have := of_decide_eq_true h
            omega
          · exact h
        obtain ⟨oj, ho2, e, he, hb, hon⟩ := Region.waitsFor_spec hc2
        rw [ho] at ho2
        cases ho2
        have h4 := h3 e he hb
        rw [hon, hu (i - 1) (by omega)] at h4
        cases h4
end
/-- **Behind the reading operations the last few are carried out, in a world of the class.** -/
theorem region_tail {P : Program} {Q : Exit → Act → World → Prop} {id : Nat} {a : Act} {w : World} {l : List Oper} {C : World → Prop} (n : Nat) (hm : P.follows .mixedOrders = true) (hC : C w.drew)
    (hB : Region.lexB .any (l.take n ++ (l.drop n).map idleT).toArray = true) (hn : decide (n < l.length) = true) (hg : ((l.take n).all fun o => match o.guard with | none => true | some (j, _) => decide (j < n)) = true)
    (hlate : lateB .any l.toArray n = true) (hchain : Region.chainB .any l.toArray n = true) (hseq : Region.seqB .any l.toArray (l.length - n) n (List.replicate n true ++ List.replicate (l.length - n) false).toArray = true)
    (h : wpQuiet P l.toArray C (fun a' => ∀ w', C w' → wpList P l.toArray Q (l.drop n) a' w') (l.take n) a) : (Code.region id l.toArray true).wp P Q a w := by
  have hn' : n < l.length := of_decide_eq_true hn
  refine wp_region_any hm ?_
  have hlt : (l.take n).length = n := by simp; omega
  have get0 : ∀ i : Nat, ((l.take n ++ (l.drop n).map idleT).toArray)[i]? = if i < n then l[i]? else (l[i]?).map idleT := fun i => by
    simp only [List.getElem?_toArray]
    rw [List.getElem?_append, hlt]
    by_cases hi : i < n
    · rw [if_pos hi, if_pos hi, List.getElem?_take_of_lt hi]
    · rw [if_neg hi, if_neg hi, List.getElem?_map, List.getElem?_drop, show n + (i - n) = i by omega]
  have hsz : ((l.take n ++ (l.drop n).map idleT).toArray).size = l.toArray.size := by simp; omega
  have hrd : ∀ listed, Region.ready .any (l.take n ++ (l.drop n).map idleT).toArray listed = Region.ready .any l.toArray listed := ready_same hsz (fun i => by
    rw [get0]
    split
    · simp
    · simp only [List.getElem?_toArray, Option.map_map]
      rfl)
  have hyl : ∀ (i : Nat) o t, i < n → l[i]? = some o → Region.wanted o (yielded (l.take n ++ (l.drop n).map idleT).toArray t) = Region.wanted o (yielded l.toArray t) := fun i o t hi ho => by
    have h1 := List.all_eq_true.1 hg o (List.mem_of_getElem? (l := l.take n) (i := i) (by rw [List.getElem?_take_of_lt hi]; exact ho))
    unfold Region.wanted
    cases hgd : o.guard with
    | none => rfl
    | some p =>
      obtain ⟨j, b⟩ := p
      rw [hgd] at h1
      have hj : j < n := of_decide_eq_true h1
      simp only
      unfold yielded
      rw [get0, if_pos hj, List.getElem?_toArray]
  refine any_tail (C := C) (n := n) (ops0 := (l.take n ++ (l.drop n).map idleT).toArray) (fun i hi => ?_) hrd (fun i o t hi ho => hyl i o t hi (by simpa using ho)) (fun k o hk ho => ?_) (by simpa using hn') hlate hchain (by simpa using hseq) _ _ a _ (by simp) (fun i oi _ hl => ?_) (fun j _ => ?_) hC ?_
  · rw [get0, if_pos hi, List.getElem?_toArray]
  · rw [get0, if_neg (by omega)] at ho
    cases hk2 : l[k]? with
    | none => rw [hk2] at ho; cases ho
    | some o2 =>
      rw [hk2] at ho
      simp only [Option.map_some, Option.some.injEq] at ho
      rw [← ho]
      exact ⟨rfl, rfl⟩
  · rw [getD_replicate_false] at hl
    cases hl
  · exact getD_replicate_false _ _
  · simp only [Region.lexB, Bool.and_eq_true] at hB
    have hidle : ∀ (tl : List Oper) (Q' : Act → Prop) (a' : Act), Q' a' → wpQuiet P (l.take n ++ (l.drop n).map idleT).toArray C Q' (tl.map idleT) a' := fun tl => by
      induction tl with
      | nil => exact fun Q' a' h => h
      | cons o r ih =>
        intro Q' a' h
        show wpQuiet P _ C Q' (idleT o :: r.map idleT) a'
        unfold wpQuiet
        rw [if_pos (show Region.wanted (idleT o) _ = true from rfl)]
        refine ⟨undef, fun w' _ => by unfold Oper.quietAt; rw [BigFrame.run_assign (.const undef) rfl]; exact ⟨rfl, rfl⟩, ?_⟩
        exact ih Q' a' h
    have hfront : ∀ (fr : List Oper) (Q' : Act → Prop) (a' : Act), (∀ o ∈ fr, ∀ t, Region.wanted o (yielded (l.take n ++ (l.drop n).map idleT).toArray t) = Region.wanted o (yielded l.toArray t)) → wpQuiet P l.toArray C Q' fr a' → wpQuiet P (l.take n ++ (l.drop n).map idleT).toArray C Q' fr a' := fun fr => by
      induction fr with
      | nil => exact fun Q' a' _ h => h
      | cons o r ih =>
        intro Q' a' hw h
        unfold wpQuiet at h ⊢
        rw [hw o (by simp)]
        split
        · rename_i hww
          simp only [hww, if_true] at h
          exact Oper.quiet_mono (fun a'' => ih Q' a'' (fun o' ho' => hw o' (List.mem_cons_of_mem _ ho'))) h
        · rename_i hww
          simp only [hww] at h
          exact ih Q' _ (fun o' ho' => hw o' (List.mem_cons_of_mem _ ho')) h
    have h2 : wpQuiet P (l.take n ++ (l.drop n).map idleT).toArray C (fun a' => ∀ w', C w' → wpList P l.toArray Q (l.toArray.toList.drop n) a' w') (l.take n ++ (l.drop n).map idleT) a := by
      refine quiet_append (l.take n) _ a (hfront (l.take n) _ a (fun o ho t => ?_) ?_)
      · obtain ⟨i, hi⟩ := List.getElem?_of_mem ho
        have hin : i < n := by
          have := (List.getElem?_eq_some_iff.1 hi).1
          omega
        exact hyl i o t hin (by rw [List.getElem?_take_of_lt hin] at hi; exact hi)
      · refine quiet_mono (fun a' ha' => hidle _ _ a' ?_) (l.take n) a h
        simpa using ha'
    have h3 := wpAnyQ_lex (C := C) (md := .any) hB.1 (l.take n ++ (l.drop n).map idleT) 0 (Array.replicate (l.take n ++ (l.drop n).map idleT).toArray.size false) a (by simp) (by simpa using hB.2) h2
    rw [hsz] at h3
    have hl2 : (l.take n ++ (l.drop n).map idleT).length = l.toArray.size := by simpa using hsz
    rw [hl2] at h3
    exact h3
end Go.Proofs.YtfgdkeomjplnnaaDoor

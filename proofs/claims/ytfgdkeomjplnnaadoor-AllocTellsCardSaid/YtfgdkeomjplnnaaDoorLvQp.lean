/- A region that draws its order, of which some first operations were taken ahead (each yields in whatever world), the next only read, while the last few wait for these, and one for another: one walk in the text's order serves every order. No condition. -/
import Derived.Test.YtfgdkeomjplnnaaDoorLvQt
namespace Go.Proofs.YtfgdkeomjplnnaaDoor
set_option linter.unusedVariables false
section
variable {P : Program} {ops ops0 : Array Oper} {md : Region.Mode} {C : World → Prop} {Q : Exit → Act → World → Prop} {n p k : Nat}
/-- Each operation from p on ahead of number k is waited for by a later one, up to k; and none waits for a later one. -/
def lateP (md : Region.Mode) (ops : Array Oper) (k p : Nat) : Bool :=
  ((List.range k).all fun j => decide (j < p) || (List.range (k + 1)).any fun i => decide (j < i) && ((ops[i]?).map (fun o => o.after.any fun e => Region.binds md e && e.on == j)).getD false) &&
  ((List.range ops.size).all fun i => ((ops[i]?).map (fun o => o.after.all fun e => !Region.binds md e || decide (e.on < i))).getD false)
theorem lateP_zero (h : lateP md ops k p = true) : lateB md ops 0 = true := by
  unfold lateP at h
  unfold lateB
  rw [Bool.and_eq_true] at h ⊢
  exact ⟨rfl, h.2⟩
theorem lateP_after (h : lateP md ops k p = true) {j : Nat} (hj : j < k) : j < p ∨ ∃ i oi, j < i ∧ i ≤ k ∧ ops[i]? = some oi ∧ ∃ e ∈ oi.after, Region.binds md e = true ∧ e.on = j := by
  unfold lateP at h
  rw [Bool.and_eq_true] at h
  have h1 := List.all_eq_true.1 h.1 j (List.mem_range.2 hj)
  rcases Bool.or_eq_true_iff.1 h1 with h0 | h1
  · exact .inl (of_decide_eq_true h0)
  obtain ⟨i, hi, h2⟩ := List.any_eq_true.1 h1
  rw [Bool.and_eq_true, decide_eq_true_eq] at h2
  obtain ⟨h3, h4⟩ := h2
  cases ho : ops[i]? with
  | none => rw [ho] at h4; cases h4
  | some oi =>
    rw [ho] at h4
    obtain ⟨e, he, h5⟩ := Array.any_eq_true'.1 (show oi.after.any _ = true from h4)
    rw [Bool.and_eq_true, beq_iff_eq] at h5
    exact .inr ⟨i, oi, h3, by have := List.mem_range.1 hi; omega, ho, e, he, h5.1, h5.2⟩
theorem all_listedP (hl : lateP md ops k p = true) {listed : Array Bool} (hc : Closed md ops listed) (hp : ∀ j, j < p → listed.getD j false = true) (hk : k ∈ Region.ready md ops listed) : ∀ n j, j < k → k - j ≤ n → listed.getD j false = true := by
  intro n
  induction n with
  | zero => intro j h1 h2; omega
  | succ n ih =>
    intro j hj hn
    rcases lateP_after hl hj with h0 | ⟨i, oi, h1, h2, ho, e, he, hb, rfl⟩
    · exact hp j h0
    by_cases hik : i = k
    · subst hik
      obtain ⟨_, o, ho', h3⟩ := mem_ready.1 hk
      rw [ho] at ho'
      cases ho'
      exact h3 e he hb
    · exact hc i oi ho (ih i (by omega) (by omega)) e he hb
theorem any_tailP (hne : ∀ i : Nat, i < n → ops0[i]? = ops[i]?) (hrd : ∀ listed, Region.ready md ops0 listed = Region.ready md ops listed) (hyl : ∀ (i : Nat) o t, i < n → ops[i]? = some o → Region.wanted o (yielded ops0 t) = Region.wanted o (yielded ops t))
    (hid : ∀ k o, n ≤ k → ops0[k]? = some o → o.dst = none ∧ o.guard = none) (hn : n < ops.size) (hlate : lateP md ops n p = true) (hchain : Region.chainB md ops n = true)
    (hseq : Region.seqB md ops (ops.size - n) n (List.replicate n true ++ List.replicate (ops.size - n) false).toArray = true) :
    ∀ (fuel : Nat) (listed : Array Bool) (a : Act) (w : World), listed.size = ops.size → Closed md ops listed → (∀ j, j < p → listed.getD j false = true) → (∀ j, n ≤ j → listed.getD j false = false) → C w →
      wpAnyQ P md ops0 C (fun a' => ∀ w', C w' → wpList P ops Q (ops.toList.drop n) a' w') fuel listed a → wpAny P md ops Q fuel listed a w := by
  intro fuel
  induction fuel with
  | zero =>
    intro listed a w hs hc hp hu hw h
    have h1 := h.1
    rw [hrd] at h1
    exact absurd h1 (ready_some (lateP_zero hlate) hs (n + 1) n (by omega) (by omega) (getD_in (by omega) (hu n (Nat.le_refl _))))
  | succ fuel ih =>
    intro listed a w hs hc hp hu hw h
    refine ⟨fun h1 => absurd h1 (ready_some (lateP_zero hlate) hs (n + 1) n (by omega) (by omega) (getD_in (by omega) (hu n (Nat.le_refl _)))), fun i hi => ?_⟩
    have hi0 : i ∈ Region.ready md ops0 listed := by rw [hrd]; exact hi
    have hq := h.2 i hi0
    by_cases hin : i < n
    · have hu2 : ∀ j, n ≤ j → (listed.setIfInBounds i true).getD j false = false := fun j hj => by rw [getD_set_ne false (by omega)]; exact hu j hj
      have h2 := wpOp_of_qOp (P := P) (Q' := Q) (w := w) (K' := wpAny P md ops Q fuel (listed.setIfInBounds i true)) hw (fun a' w' hw' hh => ih _ a' w' (by simpa using hs) (hc.set hi) (fun j hj => getD_set_true (hp j hj)) hu2 hw' hh) hq
      unfold wpOp at h2 ⊢
      rw [hne i hin] at h2
      cases ho : ops[i]? with
      | none => rw [ho] at h2; exact h2
      | some oi =>
        rw [ho] at h2
        simp only [hyl i oi _ hin ho] at h2
        exact h2
    · by_cases hik : i = n
      · subst hik
        have hall := all_listedP hlate hc hp hi (i + 1)
        have hL : listed = (List.replicate i true ++ List.replicate (ops.size - i) false).toArray := by
          apply Array.ext
          · simp; omega
          · intro j h1 h2
            by_cases hj : j < i
            · have := hall j hj (by omega)
              simp only [Array.getD_eq_getD_getElem?, Array.getElem?_eq_getElem h1, Option.getD_some] at this
              simp [this, hj]
            · have := hu j (by omega)
              simp only [Array.getD_eq_getD_getElem?, Array.getElem?_eq_getElem h1, Option.getD_some] at this
              simp [this, List.getElem_append, hj]
        have hS : Region.seqB md ops (ops.size - i) i listed = true := by rw [hL]; exact hseq
        have hQ := idle_end hrd hid (ops.size - i) i listed (fuel + 1) a (Nat.le_refl _) hS h
        have hlen : (ops.toList.drop i).length = ops.size - i := by simp
        have := tail_run (Q := Q) hrd (ops.toList.drop i) i listed (fuel + 1) a a w (fun j => by simp) (by rw [hlen]; exact hS) h (hQ w hw)
        exact this.2 i hi
      · exfalso
        obtain ⟨h1, oi, ho, h3⟩ := mem_ready.1 hi
        have his : i < ops.size := (Array.getElem?_eq_some_iff.1 ho).1
        have hc1 := List.all_eq_true.1 hchain i (List.mem_range.2 his)
        have hc2 : Region.waitsFor md ops i (i - 1) = true := by
          rcases Bool.or_eq_true_iff.1 hc1 with h | h
          · have := of_decide_eq_true h
            omega
          · exact h
        obtain ⟨oj, ho2, e, he, hb, hon⟩ := Region.waitsFor_spec hc2
        rw [ho] at ho2
        cases ho2
        have h4 := h3 e he hb
        rw [hon, hu (i - 1) (by omega)] at h4
        cases h4
end
/-- **Behind operations that were taken ahead, and the reading ones, the last few are carried out, in a world of the class.** -/
theorem tail_pre {P : Program} {Q : Exit → Act → World → Prop} {a : Act} {w : World} {l : List Oper} {listed : Array Bool} {fuel : Nat} {C : World → Prop} (p n : Nat) (hC : C w)
    (hl : listed = (List.replicate p true ++ List.replicate (l.length - p) false).toArray) (hf : fuel = l.length - p)
    (hB : (Region.noSelect (l.take n ++ (l.drop n).map idleT).toArray && Region.lexFrom .any (l.take n ++ (l.drop n).map idleT).toArray (l.length - p) p (List.replicate p true ++ List.replicate (l.length - p) false).toArray) = true) (hn : decide (p ≤ n ∧ n < l.length) = true) (hg : ((l.take n).all fun o => match o.guard with | none => true | some (j, _) => decide (j < n)) = true)
    (hlate : lateP .any l.toArray n p = true) (hchain : Region.chainB .any l.toArray n = true) (hseq : Region.seqB .any l.toArray (l.length - n) n (List.replicate n true ++ List.replicate (l.length - n) false).toArray = true)
    (h : wpQuiet P l.toArray C (fun a' => ∀ w', C w' → wpList P l.toArray Q (l.drop n) a' w') ((l.take n).drop p) a) : wpAny P .any l.toArray Q fuel listed a w := by
  obtain ⟨hpn, hn'⟩ : p ≤ n ∧ n < l.length := of_decide_eq_true hn
  have hgd : ∀ j, listed.getD j false = if j < p then true else false := fun j => by
    rw [hl]
    simp only [Array.getD_eq_getD_getElem?, List.getElem?_toArray, List.getElem?_append, List.length_replicate, List.getElem?_replicate]
    by_cases h0 : j < p
    · simp [h0]
    · simp only [if_neg h0]
      split <;> rfl
  have hlt : (l.take n).length = n := by simp; omega
  have get0 : ∀ i : Nat, ((l.take n ++ (l.drop n).map idleT).toArray)[i]? = if i < n then l[i]? else (l[i]?).map idleT := fun i => by
    simp only [List.getElem?_toArray]
    rw [List.getElem?_append, hlt]
    by_cases hi : i < n
    · rw [if_pos hi, if_pos hi, List.getElem?_take_of_lt hi]
    · rw [if_neg hi, if_neg hi, List.getElem?_map, List.getElem?_drop, show n + (i - n) = i by omega]
  have hsz : ((l.take n ++ (l.drop n).map idleT).toArray).size = l.toArray.size := by simp; omega
  have hrd : ∀ listed, Region.ready .any (l.take n ++ (l.drop n).map idleT).toArray listed = Region.ready .any l.toArray listed := ready_same hsz (fun i => by
    rw [get0]
    split
    · simp
    · simp only [List.getElem?_toArray, Option.map_map]
      rfl)
  have hyl : ∀ (i : Nat) o t, i < n → l[i]? = some o → Region.wanted o (yielded (l.take n ++ (l.drop n).map idleT).toArray t) = Region.wanted o (yielded l.toArray t) := fun i o t hi ho => by
    have h1 := List.all_eq_true.1 hg o (List.mem_of_getElem? (l := l.take n) (i := i) (by rw [List.getElem?_take_of_lt hi]; exact ho))
    unfold Region.wanted
    cases hgd : o.guard with
    | none => rfl
    | some p =>
      obtain ⟨j, b⟩ := p
      rw [hgd] at h1
      have hj : j < n := of_decide_eq_true h1
      simp only
      unfold yielded
      rw [get0, if_pos hj, List.getElem?_toArray]
  refine any_tailP (p := p) (C := C) (n := n) (ops0 := (l.take n ++ (l.drop n).map idleT).toArray) (fun i hi => ?_) hrd (fun i o t hi ho => hyl i o t hi (by simpa using ho)) (fun k o hk ho => ?_) (by simpa using hn') hlate hchain (by simpa using hseq) _ _ a _ (by rw [hl]; simp; omega) (fun i oi hoi hli e he hb => ?_) (fun j hj => ?_) (fun j hj => ?_) hC ?_
  · rw [get0, if_pos hi, List.getElem?_toArray]
  · rw [get0, if_neg (by omega)] at ho
    cases hk2 : l[k]? with
    | none => rw [hk2] at ho; cases ho
    | some o2 =>
      rw [hk2] at ho
      simp only [Option.map_some, Option.some.injEq] at ho
      rw [← ho]
      exact ⟨rfl, rfl⟩
  · have hip : i < p := by
      rcases Nat.lt_or_ge i p with h0 | h0
      · exact h0
      · rw [hgd] at hli
        rw [if_neg (by omega)] at hli
        cases hli
    have := lateB_back (lateP_zero hlate) hoi e he hb
    rw [hgd, if_pos (by omega)]
  · rw [hgd, if_pos hj]
  · rw [hgd, if_neg (by omega)]
  · rw [Bool.and_eq_true] at hB
    have hidle : ∀ (tl : List Oper) (Q' : Act → Prop) (a' : Act), Q' a' → wpQuiet P (l.take n ++ (l.drop n).map idleT).toArray C Q' (tl.map idleT) a' := fun tl => by
      induction tl with
      | nil => exact fun Q' a' h => h
      | cons o r ih =>
        intro Q' a' h
        show wpQuiet P _ C Q' (idleT o :: r.map idleT) a'
        unfold wpQuiet
        rw [if_pos (show Region.wanted (idleT o) _ = true from rfl)]
        refine ⟨undef, fun w' _ => by unfold Oper.quietAt; rw [BigFrame.run_assign (.const undef) rfl]; exact ⟨rfl, rfl⟩, ?_⟩
        exact ih Q' a' h
    have hfront : ∀ (fr : List Oper) (Q' : Act → Prop) (a' : Act), (∀ o ∈ fr, ∀ t, Region.wanted o (yielded (l.take n ++ (l.drop n).map idleT).toArray t) = Region.wanted o (yielded l.toArray t)) → wpQuiet P l.toArray C Q' fr a' → wpQuiet P (l.take n ++ (l.drop n).map idleT).toArray C Q' fr a' := fun fr => by
      induction fr with
      | nil => exact fun Q' a' _ h => h
      | cons o r ih =>
        intro Q' a' hw h
        unfold wpQuiet at h ⊢
        rw [hw o (by simp)]
        split
        · rename_i hww
          simp only [hww, if_true] at h
          exact Oper.quiet_mono (fun a'' => ih Q' a'' (fun o' ho' => hw o' (List.mem_cons_of_mem _ ho'))) h
        · rename_i hww
          simp only [hww] at h
          exact ih Q' _ (fun o' ho' => hw o' (List.mem_cons_of_mem _ ho')) h
    have h2 : wpQuiet P (l.take n ++ (l.drop n).map idleT).toArray C (fun a' => ∀ w', C w' → wpList P l.toArray Q (l.toArray.toList.drop n) a' w') ((l.take n).drop p ++ (l.drop n).map idleT) a := by
      refine quiet_append ((l.take n).drop p) _ a (hfront ((l.take n).drop p) _ a (fun o ho t => ?_) ?_)
      · obtain ⟨i, hi⟩ := List.getElem?_of_mem (List.mem_of_mem_drop ho)
        have hin : i < n := by
          have := (List.getElem?_eq_some_iff.1 hi).1
          omega
        exact hyl i o t hin (by rw [List.getElem?_take_of_lt hin] at hi; exact hi)
      · refine quiet_mono (fun a' ha' => hidle _ _ a' ?_) ((l.take n).drop p) a h
        simpa using ha'
    have hl2 : ((l.take n).drop p ++ (l.drop n).map idleT).length = l.length - p := by simp; omega
    have h3 := wpAnyQ_lex (C := C) (md := .any) hB.1 ((l.take n).drop p ++ (l.drop n).map idleT) p listed a (fun j => ?_) (by rw [hl2, hl]; exact hB.2) h2
    · rw [hl2] at h3
      rw [hf]
      exact h3
    · rw [get0, List.getElem?_append]
      have hl3 : ((l.take n).drop p).length = n - p := by simp; omega
      rw [hl3]
      by_cases hj : j < n - p
      · rw [if_pos hj, if_pos (by omega), List.getElem?_drop, List.getElem?_take_of_lt (by omega)]
      · rw [if_neg hj, if_neg (by omega), List.getElem?_map, List.getElem?_drop, show n + (j - (n - p)) = p + j by omega]
end Go.Proofs.YtfgdkeomjplnnaaDoor

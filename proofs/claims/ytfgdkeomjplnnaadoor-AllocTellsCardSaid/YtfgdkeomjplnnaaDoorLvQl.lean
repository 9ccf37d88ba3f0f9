/- A region that draws its order, of which all operations but the last only read, while the last one waits for all others: one walk in the text's order serves every order. No condition. -/
import Derived.Test.YtfgdkeomjplnnaaDoorMem
import Derived.BigQuiet
namespace Go.Proofs.YtfgdkeomjplnnaaDoor
set_option linter.unusedVariables false
section
variable {P : Program} {ops ops0 : Array Oper} {md : Region.Mode} {C : World → Prop} {Q : Exit → Act → World → Prop} {k : Nat} {o o0 : Oper}
/-- Each operation ahead of number k is waited for by a later one, up to k; and none waits for a later one. -/
def lateB (md : Region.Mode) (ops : Array Oper) (k : Nat) : Bool :=
  ((List.range k).all fun j => (List.range (k + 1)).any fun i => decide (j < i) && ((ops[i]?).map (fun o => o.after.any fun e => Region.binds md e && e.on == j)).getD false) &&
  ((List.range ops.size).all fun i => ((ops[i]?).map (fun o => o.after.all fun e => !Region.binds md e || decide (e.on < i))).getD false)
theorem lateB_after (h : lateB md ops k = true) {j : Nat} (hj : j < k) : ∃ i oi, j < i ∧ i ≤ k ∧ ops[i]? = some oi ∧ ∃ e ∈ oi.after, Region.binds md e = true ∧ e.on = j := by
  unfold lateB at h
  rw [Bool.and_eq_true] at h
  have h1 := List.all_eq_true.1 h.1 j (List.mem_range.2 hj)
  obtain ⟨i, hi, h2⟩ := List.any_eq_true.1 h1
  rw [Bool.and_eq_true, decide_eq_true_eq] at h2
  obtain ⟨h3, h4⟩ := h2
  cases ho : ops[i]? with
  | none => rw [ho] at h4; cases h4
  | some oi =>
    rw [ho] at h4
    obtain ⟨e, he, h5⟩ := Array.any_eq_true'.1 (show oi.after.any _ = true from h4)
    rw [Bool.and_eq_true, beq_iff_eq] at h5
    exact ⟨i, oi, h3, by have := List.mem_range.1 hi; omega, ho, e, he, h5.1, h5.2⟩
theorem lateB_back (h : lateB md ops k = true) {i : Nat} {oi : Oper} (ho : ops[i]? = some oi) : ∀ e ∈ oi.after, Region.binds md e = true → e.on < i := by
  intro e he hb
  unfold lateB at h
  rw [Bool.and_eq_true] at h
  have h1 := List.all_eq_true.1 h.2 i (List.mem_range.2 (Array.getElem?_eq_some_iff.1 ho).1)
  rw [ho] at h1
  have h2 := Array.all_eq_true_iff_forall_mem.1 (show oi.after.all _ = true from h1) e he
  rw [hb] at h2
  simpa using h2
def Closed (md : Region.Mode) (ops : Array Oper) (listed : Array Bool) : Prop := ∀ i oi, ops[i]? = some oi → listed.getD i false = true → ∀ e ∈ oi.after, Region.binds md e = true → listed.getD e.on false = true
theorem Closed.set {listed : Array Bool} {i : Nat} (h : Closed md ops listed) (hi : i ∈ Region.ready md ops listed) : Closed md ops (listed.setIfInBounds i true) := by
  intro j oj hj hl e he hb
  by_cases hji : i = j
  · subst hji
    obtain ⟨_, o, ho, h1⟩ := mem_ready.1 hi
    rw [hj] at ho
    cases ho
    exact getD_set_true (h1 e he hb)
  · rw [getD_set_ne false hji] at hl
    exact getD_set_true (h j oj hj hl e he hb)
/-- If number k may come up, all others have. -/
theorem all_listed (hl : lateB md ops k = true) {listed : Array Bool} (hc : Closed md ops listed) (hk : k ∈ Region.ready md ops listed) : ∀ n j, j < k → k - j ≤ n → listed.getD j false = true := by
  intro n
  induction n with
  | zero => intro j h1 h2; omega
  | succ n ih =>
    intro j hj hn
    obtain ⟨i, oi, h1, h2, ho, e, he, hb, rfl⟩ := lateB_after hl hj
    by_cases hik : i = k
    · subst hik
      obtain ⟨_, o, ho', h3⟩ := mem_ready.1 hk
      rw [ho] at ho'
      cases ho'
      exact h3 e he hb
    · exact hc i oi ho (ih i (by omega) (by omega)) e he hb
theorem ready_some (hl : lateB md ops k = true) {listed : Array Bool} (hs : listed.size = ops.size) : ∀ n j, j < n → j < ops.size → listed.getD j true = false → Region.ready md ops listed ≠ [] := by
  intro n
  induction n with
  | zero => intro j h; omega
  | succ n ih =>
    intro j hj hjs hu
    by_cases h : ∀ i, i < j → listed.getD i true = true
    · have hm : j ∈ Region.ready md ops listed := mem_ready.2 ⟨hu, ops[j], Array.getElem?_eq_getElem hjs, fun e he hb => by
        have h1 := lateB_back hl (Array.getElem?_eq_getElem hjs) e he hb
        have h2 := h e.on h1
        have h3 : e.on < listed.size := by omega
        simp [h3] at h2 ⊢
        exact h2⟩
      intro h0
      rw [h0] at hm
      cases hm
    · rw [Classical.not_forall] at h
      obtain ⟨i, hi⟩ := h
      rw [Classical.not_imp] at hi
      exact ih i (by omega) (by omega) (by simpa using hi.2)
theorem ready_same (hsz : ops0.size = ops.size) (hne : ∀ i : Nat, (ops0[i]?).map Oper.after = (ops[i]?).map Oper.after) (listed : Array Bool) : Region.ready md ops0 listed = Region.ready md ops listed := by
  unfold Region.ready
  rw [hsz]
  congr 1
  funext i
  have h := hne i
  cases h0 : ops0[i]? <;> cases h1 : ops[i]? <;> rw [h0, h1] at h <;> simp at h
  · simp [h]
theorem yielded_same (hd : ∀ i : Nat, (ops0[i]?).bind Oper.dst = (ops[i]?).bind Oper.dst) (t : Array Value) : yielded ops0 t = yielded ops t := by
  funext j
  unfold yielded
  rw [hd j]
theorem any_last (hsz : ops0.size = ops.size) (hne : ∀ i : Nat, i ≠ k → ops0[i]? = ops[i]?) (hk : ops[k]? = some o) (hk0 : ops0[k]? = some o0) (haf : o0.after = o.after) (hd : o.dst = none) (hd0 : o0.dst = none) (hg : o.guard = none) (hg0 : o0.guard = none)
    (hlate : lateB md ops k = true) (hks : k + 1 = ops.size) :
    ∀ (fuel : Nat) (listed : Array Bool) (a : Act) (w : World), listed.size = ops.size → Closed md ops listed → listed.getD k true = false → C w →
      wpAnyQ P md ops0 C (fun a' => ∀ w', C w' → o.wp P a' w' (fun a w => Q .normal a w) Q) fuel listed a → wpAny P md ops Q fuel listed a w := by
  have haft : ∀ i : Nat, (ops0[i]?).map Oper.after = (ops[i]?).map Oper.after := fun i => by
    by_cases h : i = k
    · rw [h, hk, hk0]
      simp [haf]
    · rw [hne i h]
  have hdst : ∀ i : Nat, (ops0[i]?).bind Oper.dst = (ops[i]?).bind Oper.dst := fun i => by
    by_cases h : i = k
    · rw [h, hk, hk0]
      simp [hd, hd0]
    · rw [hne i h]
  have hrd := fun listed => ready_same (md := md) hsz haft listed
  have hyl := fun t => yielded_same hdst t
  have hwant : ∀ a : Act, Region.wanted o (yielded ops a.tmps) = true := fun a => by unfold Region.wanted; rw [hg]
  have hwant0 : ∀ a : Act, Region.wanted o0 (yielded ops0 a.tmps) = true := fun a => by unfold Region.wanted; rw [hg0]
  intro fuel
  induction fuel with
  | zero =>
    intro listed a w hs hc hu hw h
    have h1 := h.1
    rw [hrd] at h1
    exact absurd h1 (ready_some hlate hs (k + 1) k (by omega) (by omega) hu)
  | succ fuel ih =>
    intro listed a w hs hc hu hw h
    refine ⟨fun h1 => absurd h1 (ready_some hlate hs (k + 1) k (by omega) (by omega) hu), fun i hi => ?_⟩
    have hi0 : i ∈ Region.ready md ops0 listed := by rw [hrd]; exact hi
    have hq := h.2 i hi0
    by_cases hik : i = k
    · subst hik
      have hall := all_listed hlate hc hi (i + 1)
      have hnone : Region.ready md ops (listed.setIfInBounds i true) = [] := by
        apply List.eq_nil_iff_forall_not_mem.2
        intro j hj
        obtain ⟨h1, oj, hj2, _⟩ := mem_ready.1 hj
        have hjs : j < ops.size := (Array.getElem?_eq_some_iff.1 hj2).1
        by_cases hji : i = j
        · subst hji
          have : i < listed.size := by omega
          simp [this] at h1
        · rw [getD_set_ne true hji] at h1
          have h2 := hall j (by omega) (by omega)
          have h3 : j < listed.size := by omega
          simp [h3] at h1 h2
          rw [h1] at h2
          cases h2
      unfold qOp at hq
      rw [hk0] at hq
      simp only [hwant0, if_true] at hq
      obtain ⟨v, _, hq2⟩ := hq
      rw [hd0] at hq2
      have hQ : ∀ w', C w' → o.wp P a w' (fun a w => Q .normal a w) Q := by
        cases fuel with
        | zero => exact hq2.2
        | succ f => exact hq2.1 (by rw [hrd]; exact hnone)
      unfold wpOp
      rw [hk]
      simp only [hwant, if_true]
      refine .inl (Oper.wp_mono (fun a' w' ha => ?_) (hQ w hw))
      cases fuel with
      | zero => exact ⟨hnone, ha⟩
      | succ f => exact ⟨fun _ => ha, fun j hj => by rw [hnone] at hj; cases hj⟩
    · have hu2 : (listed.setIfInBounds i true).getD k true = false := by rw [getD_set_ne true hik]; exact hu
      have h2 := wpOp_of_qOp (P := P) (Q' := Q) (w := w) (K' := wpAny P md ops Q fuel (listed.setIfInBounds i true)) hw (fun a' w' hw' hh => ih _ a' w' (by simpa using hs) (hc.set hi) hu2 hw' hh) hq
      unfold wpOp at h2 ⊢
      rw [hne i hik] at h2
      cases ho : ops[i]? with
      | none => rw [ho] at h2; exact h2
      | some oi =>
        rw [ho] at h2
        simp only [hyl] at h2
        exact h2
theorem quiet_append {ops : Array Oper} {Q : Act → Prop} : ∀ (l l2 : List Oper) (a : Act), wpQuiet P ops C (wpQuiet P ops C Q l2) l a → wpQuiet P ops C Q (l ++ l2) a
  | [], _, _, h => h
  | o :: l, l2, a, h => by
    show wpQuiet P ops C Q (o :: (l ++ l2)) a
    unfold wpQuiet at h ⊢
    split
    · rename_i hw
      simp only [hw, if_true] at h
      exact Oper.quiet_mono (fun a' => quiet_append l l2 a') h
    · rename_i hw
      simp only [hw] at h
      exact quiet_append l l2 _ h
theorem quiet_mono {Q Q' : Act → Prop} (hQ : ∀ a, Q a → Q' a) : ∀ (l : List Oper) (a : Act), wpQuiet P ops C Q l a → wpQuiet P ops C Q' l a
  | [], a, h => hQ a h
  | o :: l, a, h => by
    unfold wpQuiet at h ⊢
    split
    · rename_i hw
      simp only [hw, if_true] at h
      exact Oper.quiet_mono (fun a' => quiet_mono hQ l a') h
    · rename_i hw
      simp only [hw] at h
      exact quiet_mono hQ l _ h
theorem quiet_ops {Q : Act → Prop} (hd : ∀ t, yielded ops0 t = yielded ops t) : ∀ (l : List Oper) (a : Act), wpQuiet P ops C Q l a → wpQuiet P ops0 C Q l a
  | [], _, h => h
  | o :: l, a, h => by
    unfold wpQuiet at h ⊢
    rw [hd]
    split
    · rename_i hw
      simp only [hw, if_true] at h
      exact Oper.quiet_mono (fun a' => quiet_ops hd l a') h
    · rename_i hw
      simp only [hw] at h
      exact quiet_ops hd l _ h
end
/-- An operation that does nothing, in the place of the last one. -/
def idle (o : Oper) : Oper := { o with op := .assign (.const undef) }
/-- **Behind the reading operations the last one is carried out, in a world that has only drawn.** -/
theorem region_last {P : Program} {Q : Exit → Act → World → Prop} {id : Nat} {a : Act} {w : World} {l : List Oper} (front : List Oper) (o : Oper) (hl : l = front ++ [o]) (hm : P.follows .mixedOrders = true) (hB : Region.lexB .any (front ++ [idle o]).toArray = true)
    (hlate : lateB .any l.toArray front.length = true) (hd : o.dst = none) (hg : o.guard = none)
    (h : wpQuiet P l.toArray (fun w' => ∃ n, w' = w.drewN n) (fun a' => ∀ n, o.wp P a' (w.drewN n) (fun a w => Q .normal a w) Q) front a) : (Code.region id l.toArray true).wp P Q a w := by
  subst hl
  refine wp_region_any hm ?_
  have hk : (front ++ [o]).toArray[front.length]? = some o := by simp
  have hk0 : (front ++ [idle o]).toArray[front.length]? = some (idle o) := by simp
  have hne : ∀ i : Nat, i ≠ front.length → (front ++ [idle o]).toArray[i]? = (front ++ [o]).toArray[i]? := fun i hi => by
    simp only [List.getElem?_toArray, List.getElem?_append]
    split
    · rfl
    · have : i - front.length = (i - front.length - 1) + 1 := by omega
      rw [this]
      rfl
  have hd2 : ∀ i : Nat, ((front ++ [idle o]).toArray[i]?).bind Oper.dst = ((front ++ [o]).toArray[i]?).bind Oper.dst := fun i => by
    by_cases hi : i = front.length
    · subst hi
      rw [hk, hk0]
      rfl
    · rw [hne i hi]
  refine any_last (C := fun w' => ∃ n, w' = w.drewN n) (ops0 := (front ++ [idle o]).toArray) (o0 := idle o) (by simp) hne hk hk0 rfl hd hd hg hg hlate (by simp) _ _ a _ (by simp) (fun i oi _ hl => ?_) (by simp) ⟨1, rfl⟩ ?_
  · exfalso
    rw [Array.getD_eq_getD_getElem?] at hl
    by_cases hi : i < (front ++ [o]).toArray.size
    · simp at hi
      simp [hi] at hl
    · simp at hi
      have h2 : ¬ i < front.length + 1 := by omega
      simp [h2] at hl
  · simp only [Region.lexB, Bool.and_eq_true] at hB
    have h2 : wpQuiet P (front ++ [idle o]).toArray (fun w' => ∃ n, w' = w.drewN n) (fun a' => ∀ w', (∃ n, w' = w.drewN n) → o.wp P a' w' (fun a w => Q .normal a w) Q) (front ++ [idle o]) a := by
      refine quiet_append front _ a (quiet_ops (fun t => yielded_same hd2 t) front a ?_)
      refine quiet_mono (fun a' ha' => ?_) front a h
      unfold wpQuiet
      rw [if_pos (show Region.wanted (idle o) _ = true by unfold Region.wanted idle; simp only [hg])]
      refine ⟨undef, fun w' _ => by unfold Oper.quietAt; rw [BigFrame.run_assign (.const undef) rfl]; exact ⟨rfl, rfl⟩, ?_⟩
      show ∀ w', _ → o.wp P (a'.put (idle o).dst undef) w' _ Q
      rw [show (idle o).dst = none from hd]
      rintro w' ⟨n, rfl⟩
      exact ha' n
    have := wpAnyQ_lex (C := fun w' => ∃ n, w' = w.drewN n) (md := .any) hB.1 (front ++ [idle o]) 0 (Array.replicate (front ++ [idle o]).toArray.size false) a (by simp) (by simpa using hB.2) h2
    simpa using this
/-- .. at a list that is written out. -/
theorem region_last_lit {P : Program} {Q : Exit → Act → World → Prop} {id : Nat} {a : Act} {w : World} {l : List Oper} (hl : l ≠ []) (hm : P.follows .mixedOrders = true) (hB : Region.lexB .any (l.dropLast ++ [idle (l.getLast hl)]).toArray = true)
    (hlate : lateB .any l.toArray l.dropLast.length = true) (hd : (l.getLast hl).dst = none) (hg : (l.getLast hl).guard = none)
    (h : wpQuiet P l.toArray (fun w' => ∃ n, w' = w.drewN n) (fun a' => ∀ n, (l.getLast hl).wp P a' (w.drewN n) (fun a w => Q .normal a w) Q) l.dropLast a) : (Code.region id l.toArray true).wp P Q a w :=
  region_last l.dropLast (l.getLast hl) (List.dropLast_concat_getLast hl).symm hm hB hlate hd hg h
end Go.Proofs.YtfgdkeomjplnnaaDoor

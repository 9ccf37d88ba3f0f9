/- LiveKeeps: values whose spans do not meet can live in one place. Plain; no condition. -/
import Derived.Test.YtfmkfmcplffhdaaLvAA
import Derived.Test.YtfmkfmcplffhdaaLvSm
namespace Go.Proofs.Ytfmkfmcplffhdaa
set_option linter.unusedVariables false

/-- What holds of each form of an instruction holds of all that is made. -/
theorem all_made {P : I9 → Prop} (h0 : ∀ i, P (stopI i)) (h1 : ∀ d o i, P (constI d o i)) (h2 : ∀ d a b i, P (binI d a b i)) (h3 : ∀ d a i, P (moveI d a i)) (h4 : ∀ a i, P (outI a i)) (s : List StepD) : ∀ x ∈ (madeS s).l, P x := by
  have snoc : ∀ {l : List I9} {x : I9}, (∀ y ∈ l, P y) → P x → ∀ y ∈ l ++ [x], P y := fun {l x} h hx y hy => by
    rcases List.mem_append.1 hy with hy | hy
    · exact h y hy
    · simp only [List.mem_singleton] at hy
      rw [hy]
      exact hx
  have hops : ∀ (i : Nat) (opn : List Int) (ops : List Nat) (st : OpsS), (∀ y ∈ st.l, P y) → ∀ k, ∀ y ∈ (opsTo i opn st ops k).l, P y := fun i opn ops st hs k => by
    induction k with
    | zero => exact hs
    | succ k ih =>
      show ∀ y ∈ (opS i opn (opsTo i opn st ops k) k (ops.getD k 0)).l, P y
      generalize opsTo i opn st ops k = r at *
      unfold opS
      split
      · refine snoc ?_ (h1 _ _ _)
        split
        · exact snoc ih (h4 _ _)
        · exact ih
      · exact snoc ih (h2 _ _ _ _)
  have hstep : ∀ (st : MadeS) (i : Nat) (x : StepD), (∀ y ∈ st.c.l, P y) → ∀ y ∈ (stepS st i x).c.l, P y := fun st i x hs => by
    have h5 := hops i st.c.opn x.ops ⟨st.c.l ++ [stopI i], pickO st.c.opn x.set, st.next⟩ (snoc hs (h0 i)) (min x.ops.length 6)
    unfold stepS
    generalize opsTo i st.c.opn ⟨st.c.l ++ [stopI i], pickO st.c.opn x.set, st.next⟩ x.ops (min x.ops.length 6) = r at *
    show ∀ y ∈ (endsB (endsA { st.c with l := r.l } x i r.last) x i).l, P y
    have hA : ∀ y ∈ (endsA { st.c with l := r.l } x i r.last).l, P y := by
      unfold endsA
      split
      · exact snoc h5 (h3 _ _ _)
      split
      · exact snoc h5 (h3 _ _ _)
      · exact snoc h5 (h4 _ _)
    unfold endsB
    split <;> exact hA
  have hall : ∀ m i, ∀ y ∈ (stepsTo s ⟨code0, m⟩ i).c.l, P y := fun m i => by
    induction i with
    | zero => simp [stepsTo, code0]
    | succ i ih => exact hstep _ _ _ ih
  exact hall _ _
theorem ops_made (s : List StepD) : ∀ x ∈ (madeS s).l, x.op = 0 ∨ x.op = 1 ∨ x.op = 2 ∨ x.op = 3 ∨ x.op = 10 :=
  all_made (fun _ => .inl rfl) (fun _ _ _ => .inr (.inl rfl)) (fun _ _ _ _ => .inr (.inr (.inr (.inl rfl)))) (fun _ _ _ => .inr (.inr (.inl rfl))) (fun _ _ => .inr (.inr (.inr (.inr rfl)))) s

/-! What code puts out. -/
def w32 (n : Int) : Int := IntKind.i32.wrap n
def upd (f : Int → Int) (k v : Int) : Int → Int := fun n => if n = k then v else f n
structure OutS where
  at' : Int → Int
  out : List Int
def outStep (pl : Int → Int) (st : OutS) (x : I9) : OutS :=
  if x.op = 1 then { st with at' := upd st.at' (pl x.d) (w32 x.n) }
  else if x.op = 3 then { st with at' := upd st.at' (pl x.d) (w32 (st.at' (pl x.a) + w32 (st.at' (pl x.b) * 3))) }
  else if x.op = 2 then { st with at' := upd st.at' (pl x.d) (st.at' (pl x.a)) }
  else if x.op = 10 then { st with out := st.out ++ [st.at' (pl x.a)] }
  else st
def out0 (pl : Int → Int) (first : Int) : OutS := ⟨upd (upd (fun _ => 0) (pl 0) first) (pl 1) (w32 (w32 (first * 7) + 1)), []⟩
def outsTo (pl : Int → Int) (first : Int) (l : List I9) (p : Nat) : OutS := (l.take p).foldl (outStep pl) (out0 pl first)
def outsL (pl : Int → Int) (first : Int) (l : List I9) : List Int := (outsTo pl first l l.length).out
theorem outsTo_succ {pl : Int → Int} {first : Int} {l : List I9} {p : Nat} {x : I9} (h : l[p]? = some x) : outsTo pl first l (p + 1) = outStep pl (outsTo pl first l p) x := by
  unfold outsTo
  rw [take_snoc' h, List.foldl_append]
  rfl
def meets (a b : Sp3) : Prop := a.fr < max b.till (b.fr + 1) ∧ b.fr < max a.till (a.fr + 1)
section
variable {l : List I9} {xs : List Lo4} {sp : List Sp3}
theorem SpanF.uniq (F : SpanF l xs sp) {a b : Sp3} (ha : a ∈ sp) (hb : b ∈ sp) (h : a.v = b.v) : a = b := by
  obtain ⟨p, hp, rfl⟩ := List.mem_iff_getElem.1 ha
  obtain ⟨q, hq, rfl⟩ := List.mem_iff_getElem.1 hb
  rcases Nat.lt_trichotomy p q with h1 | h1 | h1
  · have := List.pairwise_iff_getElem.1 F.sorted p q hp hq h1
    omega
  · subst h1
    rfl
  · have := List.pairwise_iff_getElem.1 F.sorted q p hq hp h1
    omega
theorem SpanF.par (F : SpanF l xs sp) {a : Sp3} (ha : a ∈ sp) (h : a.v < 2) : a.fr = 0 := by
  have h0 := (F.bounds a ha).1
  obtain ⟨b, hb, hv, hf⟩ := F.first a.v h0 h
  rw [F.uniq ha hb hv.symm]
  exact hf
/-- Both runs hold the same, where a value is yet to be read. -/
def SimI (sp : List Sp3) (h : Int → Int) (p : Nat) (a b : OutS) : Prop := a.out = b.out ∧ ∀ s ∈ sp, (s.fr < (p : Int) ∨ s.v < 2) → (p : Int) ≤ s.till → a.at' s.v = b.at' (h s.v)
theorem sim_step (F : SpanF l xs sp) {h : Int → Int} (hh : ∀ a ∈ sp, ∀ b ∈ sp, a.v ≠ b.v → meets a b → h a.v ≠ h b.v) {p : Nat} {x : I9} (hx : l[p]? = some x) (hsm : Sm x) (hop : x.op = 0 ∨ x.op = 1 ∨ x.op = 2 ∨ x.op = 3 ∨ x.op = 10) {a b : OutS} (hI : SimI sp h p a b) :
    SimI sp h (p + 1) (outStep id a x) (outStep h b x) := by
  obtain ⟨ho, hv⟩ := hI
  obtain ⟨d0, _, a0, _, b0, _⟩ := hsm
  have hrd : ∀ r ∈ readsL x, a.at' r = b.at' (h r) := fun r hr => by
    obtain ⟨s, hs, h1, h2, h3⟩ := F.read p x r hx hr
    rw [← h1]
    exact hv s hs (by rcases h2 with h2 | ⟨h2, _⟩; exact .inl h2; exact .inr (by omega)) h3
  -- nothing is made
  have hno : makesL x < 0 → ∀ s ∈ sp, (s.fr < ((p + 1 : Nat) : Int) ∨ s.v < 2) → ((p + 1 : Nat) : Int) ≤ s.till → a.at' s.v = b.at' (h s.v) := fun hm s hs h1 h2 => by
    have hb := F.bounds s hs
    refine hv s hs ?_ (by omega)
    by_cases h3 : s.v < 2
    · exact .inr h3
    · refine .inl ?_
      rcases h1 with h1 | h1
      · by_cases h4 : s.fr = (p : Int)
        · obtain ⟨y, hy, hym⟩ := F.born s hs (by omega)
          rw [h4, Int.toNat_natCast, hx] at hy
          cases hy
          omega
        · omega
      · omega
  -- a value is made
  have hyes : 0 ≤ makesL x → ∀ u : Int, ∀ s ∈ sp, (s.fr < ((p + 1 : Nat) : Int) ∨ s.v < 2) → ((p + 1 : Nat) : Int) ≤ s.till → upd a.at' (makesL x) u s.v = upd b.at' (h (makesL x)) u (h s.v) := fun hm u s hs h1 h2 => by
    obtain ⟨m, hms, hmv, hm1, hm2, hm3⟩ := F.make p x hx hm
    have hb := F.bounds s hs
    unfold upd
    by_cases he : s.v = makesL x
    · rw [if_pos he, if_pos (by rw [he])]
    · have hlo : s.fr ≤ (p : Int) := by
        by_cases h3 : s.v < 2
        · rw [F.par hs h3]
          omega
        · omega
      have hne : h s.v ≠ h (makesL x) := by
        rw [← hmv]
        refine hh s hs m hms (by rw [hmv]; exact he) ⟨?_, ?_⟩
        · omega
        · omega
      rw [if_neg he, if_neg hne]
      refine hv s hs ?_ (by omega)
      by_cases h3 : s.v < 2
      · exact .inr h3
      · refine .inl ?_
        by_cases h4 : s.fr = (p : Int)
        · obtain ⟨y, hy, hym⟩ := F.born s hs (by omega)
          rw [h4, Int.toNat_natCast, hx] at hy
          cases hy
          omega
        · omega
  have hkind : ∀ k m, kindU x.op = some (k, m) → (makesL x = if m then max (-1) x.d else -1) ∧ readsL x = keep0 (rawU k x.a x.b) := fun k m hk => by
    refine ⟨?_, by unfold readsL; rw [hk]⟩
    unfold makesL
    rw [hk]
    cases m <;> rfl
  unfold outStep
  rcases hop with h0 | h0 | h0 | h0 | h0
  · have hm : makesL x = -1 := by unfold makesL; rw [h0]; rfl
    simp only [h0]
    exact ⟨ho, hno (by omega)⟩
  · obtain ⟨hm, hr⟩ := hkind 0 true (by rw [h0]; rfl)
    have hm2 : makesL x = x.d := by rw [hm]; show max (-1) x.d = x.d; omega
    simp only [h0]
    refine ⟨ho, ?_⟩
    rw [← hm2]
    exact hyes (by omega) _
  · obtain ⟨hm, hr⟩ := hkind 1 true (by rw [h0]; rfl)
    have hm2 : makesL x = x.d := by rw [hm]; show max (-1) x.d = x.d; omega
    have hra := hrd x.a (by rw [hr]; simp [rawU, keep0, a0])
    have e1 : ¬ x.op = 1 := by omega
    have e3 : ¬ x.op = 3 := by omega
    rw [if_neg e1, if_neg e3, if_pos h0, if_neg e1, if_neg e3, if_pos h0]
    refine ⟨ho, ?_⟩
    show ∀ s ∈ sp, _ → _ → upd a.at' x.d (a.at' x.a) s.v = upd b.at' (h x.d) (b.at' (h x.a)) (h s.v)
    rw [hra, ← hm2]
    exact hyes (by omega) _
  · obtain ⟨hm, hr⟩ := hkind 2 true (by rw [h0]; rfl)
    have hm2 : makesL x = x.d := by rw [hm]; show max (-1) x.d = x.d; omega
    have hra := hrd x.a (by rw [hr]; simp [rawU, keep0, a0, b0])
    have hrb := hrd x.b (by rw [hr]; simp [rawU, keep0, a0, b0])
    have e1 : ¬ x.op = 1 := by omega
    rw [if_neg e1, if_pos h0, if_neg e1, if_pos h0]
    refine ⟨ho, ?_⟩
    show ∀ s ∈ sp, _ → _ → upd a.at' x.d (w32 (a.at' x.a + w32 (a.at' x.b * 3))) s.v = upd b.at' (h x.d) (w32 (b.at' (h x.a) + w32 (b.at' (h x.b) * 3))) (h s.v)
    rw [hra, hrb, ← hm2]
    exact hyes (by omega) _
  · obtain ⟨hm, hr⟩ := hkind 1 false (by rw [h0]; rfl)
    have hra := hrd x.a (by rw [hr]; simp [rawU, keep0, a0])
    have e1 : ¬ x.op = 1 := by omega
    have e3 : ¬ x.op = 3 := by omega
    have e2 : ¬ x.op = 2 := by omega
    rw [if_neg e1, if_neg e3, if_neg e2, if_pos h0, if_neg e1, if_neg e3, if_neg e2, if_pos h0]
    refine ⟨?_, hno (by rw [hm]; show (-1 : Int) < 0; decide)⟩
    show a.out ++ [a.at' x.a] = b.out ++ [b.at' (h x.a)]
    rw [ho, hra]
/-- **Code does the same, if no two values whose spans meet have one home.** -/
theorem outs_same (F : SpanF l xs sp) {h : Int → Int} (hh : ∀ a ∈ sp, ∀ b ∈ sp, a.v ≠ b.v → meets a b → h a.v ≠ h b.v) (hsm : ∀ x ∈ l, Sm x) (hop : ∀ x ∈ l, x.op = 0 ∨ x.op = 1 ∨ x.op = 2 ∨ x.op = 3 ∨ x.op = 10) (first : Int) : outsL id first l = outsL h first l := by
  have key : ∀ p, p ≤ l.length → SimI sp h p (outsTo id first l p) (outsTo h first l p) := fun p => by
    induction p with
    | zero =>
      intro _
      refine ⟨rfl, fun s hs h1 h2 => ?_⟩
      have hb := F.bounds s hs
      have hv : s.v = 0 ∨ s.v = 1 := by rcases h1 with h1 | h1 <;> omega
      obtain ⟨z, hz, zv, zf⟩ := F.first 0 (by omega) (by omega)
      obtain ⟨o, ho, ov, of'⟩ := F.first 1 (by omega) (by omega)
      have hne := hh z hz o ho (by omega) ⟨by omega, by omega⟩
      rw [zv, ov] at hne
      show upd (upd (fun _ => 0) 0 first) 1 _ s.v = upd (upd (fun _ => 0) (h 0) first) (h 1) _ (h s.v)
      unfold upd
      rcases hv with hv | hv
      · rw [hv, if_neg (by omega), if_pos rfl, if_neg hne, if_pos rfl]
      · rw [hv, if_pos rfl, if_pos rfl]
    | succ p ih =>
      intro hp
      have hx : l[p]? = some l[p] := List.getElem?_eq_getElem (by omega)
      rw [outsTo_succ hx, outsTo_succ hx]
      exact sim_step F hh hx (hsm _ (List.getElem_mem _)) (hop _ (List.getElem_mem _)) (ih (by omega))
  exact (key l.length (Nat.le_refl _)).1
end
end Go.Proofs.Ytfmkfmcplffhdaa

/- What ploverlaw19.made makes of steps, as plain lists. No condition. -/
import Derived.Test.YtfmkfmcplffhdaaLvK2
namespace Go.Proofs.Ytfmkfmcplffhdaa
set_option linter.unusedVariables false

structure StepD where
  kind : Nat
  set : Nat
  ops : List Nat
structure CodeS where
  l : List I9
  lo : List Lo4
  opn : List Int
def lo0 : Lo4 := ⟨⟨#[]⟩, 0, 0, 0⟩
def stopI (i : Nat) : I9 := ⟨0, 0, 0, 0, 0, 0, 0, 0, (i : Int)⟩
def constI (d o : Int) (i : Nat) : I9 := ⟨1, 0, 0, d, 0, 0, o, 0, (i : Int)⟩
def binI (d a b : Int) (i : Nat) : I9 := ⟨3, 12, 2, d, a, b, 0, 0, (i : Int)⟩
def moveI (d a : Int) (i : Nat) : I9 := ⟨2, 0, 0, d, a, 0, 0, 0, (i : Int)⟩
def outI (a : Int) (i : Nat) : I9 := ⟨10, 0, 0, 0, a, 0, 0, 0, (i : Int)⟩
/-- The value that stands at a place. -/
def pickO (opn : List Int) (k : Nat) : Int := opn.getD (k % opn.length) 0
structure OpsS where
  l : List I9
  last : Int
  next : Int
def opS (i : Nat) (opn : List Int) (st : OpsS) (k o : Nat) : OpsS :=
  if o % 4 = 0 then ⟨(if 0 < k then st.l ++ [outI st.last i] else st.l) ++ [constI st.next (o : Int) i], st.next, st.next + 1⟩
  else ⟨st.l ++ [binI st.next st.last (pickO opn (o / 4)) i], st.next, st.next + 1⟩
def opsTo (i : Nat) (opn : List Int) (st : OpsS) (ops : List Nat) : Nat → OpsS
  | 0 => st
  | k + 1 => opS i opn (opsTo i opn st ops k) k (ops.getD k 0)
def setTill (lo : List Lo4) (v : Int) (t : Int) : List Lo4 := lo.modify v.toNat (fun x => { x with till := t })
def endsA (c : CodeS) (s : StepD) (i : Nat) (last : Int) : CodeS :=
  if s.kind % 4 = 0 then ⟨c.l ++ [moveI (c.lo.length : Int) last i], c.lo ++ [⟨⟨#[]⟩, 0, (i : Int) + 1, 0⟩], c.opn ++ [(c.lo.length : Int)]⟩
  else if s.kind % 4 = 1 then { c with l := c.l ++ [moveI (pickO c.opn (s.set / 16)) last i] }
  else { c with l := c.l ++ [outI last i] }
def endsB (c : CodeS) (s : StepD) (i : Nat) : CodeS :=
  if 11 < s.kind % 16 ∧ 2 < c.opn.length then { c with lo := setTill c.lo (c.opn.getD (c.opn.length - 1) 0) ((i : Int) + 1), opn := c.opn.take (c.opn.length - 1) }
  else c
def endsS (c : CodeS) (s : StepD) (i : Nat) (last : Int) : CodeS := endsB (endsA c s i last) s i
structure MadeS where
  c : CodeS
  next : Int
def stepS (st : MadeS) (i : Nat) (s : StepD) : MadeS :=
  let r := opsTo i st.c.opn ⟨st.c.l ++ [stopI i], pickO st.c.opn s.set, st.next⟩ s.ops (min s.ops.length 6)
  ⟨endsS { st.c with l := r.l } s i r.last, r.next⟩
def code0 : CodeS := ⟨[], [lo0, lo0], [0, 1]⟩
def stepsTo (s : List StepD) (st : MadeS) : Nat → MadeS
  | 0 => st
  | i + 1 => stepS (stepsTo s st i) i (s.getD i ⟨0, 0, []⟩)
def manyTo (s : List StepD) : Nat → Int
  | 0 => 2
  | i + 1 => if (s.getD i ⟨0, 0, []⟩).kind % 4 = 0 then manyTo s i + 1 else manyTo s i
def shutTo (lo : List Lo4) (opn : List Int) (n : Int) : Nat → List Lo4
  | 0 => lo
  | k + 1 => setTill (shutTo lo opn n k) (opn.getD k 0) n
def madeN (s : List StepD) : Nat := min s.length 20
def madeM (s : List StepD) : MadeS := stepsTo s ⟨code0, manyTo s (madeN s)⟩ (madeN s)
/-- All of it. -/
def madeS (s : List StepD) : CodeS := { (madeM s).c with lo := shutTo (madeM s).c.lo (madeM s).c.opn (madeN s : Int) (madeM s).c.opn.length }

/-! Sizes. -/
structure Fit0 (c : CodeS) (n : Nat) : Prop where
  two : 2 ≤ c.opn.length
  opn : ∀ v ∈ c.opn, 0 ≤ v ∧ v < (c.lo.length : Int)
  lo : c.lo.length ≤ n + 2
  opl : c.opn.length ≤ n + 2
  l : c.l.length ≤ n * 14
theorem setTill_length (lo : List Lo4) (v t : Int) : (setTill lo v t).length = lo.length := by simp [setTill]
theorem pickO_mem {opn : List Int} (h : 0 < opn.length) (k : Nat) : pickO opn k ∈ opn := by
  unfold pickO
  have hl : k % opn.length < opn.length := Nat.mod_lt _ h
  rw [List.getD, List.getElem?_eq_getElem hl]
  exact List.getElem_mem hl
theorem fit_code0 : Fit0 code0 0 := ⟨by decide, by decide, by decide, by decide, by decide⟩
theorem opsTo_len (i : Nat) (opn : List Int) (st : OpsS) (ops : List Nat) : ∀ k, (opsTo i opn st ops k).l.length ≤ st.l.length + 2 * k ∧ (opsTo i opn st ops k).next = st.next + k
  | 0 => ⟨Nat.le_refl _, by simp [opsTo]⟩
  | k + 1 => by
    obtain ⟨h1, h2⟩ := opsTo_len i opn st ops k
    simp only [opsTo, opS]
    split
    · split <;> exact ⟨by simp; omega, by simp; omega⟩
    · exact ⟨by simp; omega, by simp; omega⟩
theorem fitA {c : CodeS} {n : Nat} (h : Fit0 c n) (s : StepD) (i : Nat) (last : Int) (hl : c.l.length ≤ n * 14 + 13) :
    2 ≤ (endsA c s i last).opn.length ∧ (∀ v ∈ (endsA c s i last).opn, 0 ≤ v ∧ v < ((endsA c s i last).lo.length : Int)) ∧ (endsA c s i last).lo.length ≤ n + 3 ∧ (endsA c s i last).opn.length ≤ n + 3 ∧ (endsA c s i last).l.length ≤ (n + 1) * 14 := by
  obtain ⟨h1, h2, h3, h4, h5⟩ := h
  unfold endsA
  split
  · refine ⟨by simp; omega, fun v hv => ?_, by simp; omega, by simp; omega, by simp; omega⟩
    simp only [List.mem_append, List.mem_singleton] at hv
    rcases hv with hv | rfl
    · have := h2 v hv
      simp
      omega
    · simp
      omega
  split
  · exact ⟨h1, h2, by simp; omega, by simp; omega, by simp; omega⟩
  · exact ⟨h1, h2, by simp; omega, by simp; omega, by simp; omega⟩
theorem fitB {c : CodeS} {n : Nat} (s : StepD) (i : Nat) (h : 2 ≤ c.opn.length ∧ (∀ v ∈ c.opn, 0 ≤ v ∧ v < (c.lo.length : Int)) ∧ c.lo.length ≤ n + 3 ∧ c.opn.length ≤ n + 3 ∧ c.l.length ≤ (n + 1) * 14) : Fit0 (endsB c s i) (n + 1) := by
  obtain ⟨h1, h2, h3, h4, h5⟩ := h
  unfold endsB
  split
  · rename_i hc
    refine ⟨by simp; omega, fun v hv => ?_, by simp [setTill_length]; omega, by simp; omega, h5⟩
    have := h2 v (List.mem_of_mem_take hv)
    simpa [setTill_length] using this
  · exact ⟨h1, h2, by omega, by omega, h5⟩
theorem fit_step {st : MadeS} {n : Nat} (h : Fit0 st.c n) (i : Nat) (s : StepD) : Fit0 (stepS st i s).c (n + 1) := by
  obtain ⟨h1, h2, h3, h4, h5⟩ := h
  have ho := opsTo_len i st.c.opn ⟨st.c.l ++ [stopI i], pickO st.c.opn s.set, st.next⟩ s.ops (min s.ops.length 6)
  have h6 : min s.ops.length 6 ≤ 6 := Nat.min_le_right _ _
  simp only [List.length_append, List.length_cons, List.length_nil] at ho
  refine fitB s i ?_
  generalize (opsTo i st.c.opn ⟨st.c.l ++ [stopI i], pickO st.c.opn s.set, st.next⟩ s.ops (min s.ops.length 6)) = r at *
  unfold endsA
  split
  · refine ⟨by simp; omega, fun v hv => ?_, by simp; omega, by simp; omega, by simp; omega⟩
    simp only [List.mem_append, List.mem_singleton] at hv
    rcases hv with hv | rfl
    · have := h2 v hv
      simp
      omega
    · simp
      omega
  split
  · exact ⟨h1, h2, by simp; omega, by simp; omega, by simp; omega⟩
  · exact ⟨h1, h2, by simp; omega, by simp; omega, by simp; omega⟩
theorem fit_steps (s : List StepD) (m : Int) : ∀ i, Fit0 (stepsTo s ⟨code0, m⟩ i).c i
  | 0 => fit_code0
  | i + 1 => fit_step (fit_steps s m i) i _
theorem next_steps (s : List StepD) (m : Int) (hm : 0 ≤ m) : ∀ i, m ≤ (stepsTo s ⟨code0, m⟩ i).next ∧ (stepsTo s ⟨code0, m⟩ i).next ≤ m + 6 * i
  | 0 => ⟨Int.le_refl _, by simp [stepsTo]⟩
  | i + 1 => by
    have h := next_steps s m hm i
    have ho := (opsTo_len i (stepsTo s ⟨code0, m⟩ i).c.opn ⟨(stepsTo s ⟨code0, m⟩ i).c.l ++ [stopI i], pickO (stepsTo s ⟨code0, m⟩ i).c.opn (s.getD i ⟨0, 0, []⟩).set, (stepsTo s ⟨code0, m⟩ i).next⟩ (s.getD i ⟨0, 0, []⟩).ops (min (s.getD i ⟨0, 0, []⟩).ops.length 6)).2
    have h6 : min (s.getD i ⟨0, 0, []⟩).ops.length 6 ≤ 6 := Nat.min_le_right _ _
    show m ≤ (opsTo _ _ _ _ _).next ∧ (opsTo _ _ _ _ _).next ≤ _
    rw [ho]
    constructor <;> (simp only []; omega)
theorem many_le (s : List StepD) : ∀ i : Nat, 2 ≤ manyTo s i ∧ manyTo s i ≤ 2 + (i : Int)
  | 0 => by simp [manyTo]
  | i + 1 => by
    have := many_le s i
    unfold manyTo
    split <;> omega
end Go.Proofs.Ytfmkfmcplffhdaa

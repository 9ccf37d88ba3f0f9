/- What holds of code that is made of steps: where values are made and read. Plain; no condition. -/
import Derived.Test.YtfmkfmcplffhdaaLvP
namespace Go.Proofs.Ytfmkfmcplffhdaa
set_option linter.unusedVariables false

theorem reads_stop (i : Nat) : readsL (stopI i) = [] := rfl
theorem makes_stop (i : Nat) : makesL (stopI i) = -1 := rfl
theorem reads_const (d o : Int) (i : Nat) : readsL (constI d o i) = [] := rfl
theorem makes_const {d : Int} (hd : 0 ≤ d) (o : Int) (i : Nat) : makesL (constI d o i) = d := by
  show max (-1) d = d
  omega
theorem reads_bin {a b : Int} (ha : 0 ≤ a) (hb : 0 ≤ b) (d : Int) (i : Nat) : readsL (binI d a b i) = [a, b] := by
  show keep0 [a, b] = [a, b]
  simp [keep0, ha, hb]
theorem makes_bin {d : Int} (hd : 0 ≤ d) (a b : Int) (i : Nat) : makesL (binI d a b i) = d := by
  show max (-1) d = d
  omega
theorem reads_move {a : Int} (ha : 0 ≤ a) (d : Int) (i : Nat) : readsL (moveI d a i) = [a] := by
  show keep0 [a] = [a]
  simp [keep0, ha]
theorem makes_move {d : Int} (hd : 0 ≤ d) (a : Int) (i : Nat) : makesL (moveI d a i) = d := by
  show max (-1) d = d
  omega
theorem reads_out {a : Int} (ha : 0 ≤ a) (i : Nat) : readsL (outI a i) = [a] := by
  show keep0 [a] = [a]
  simp [keep0, ha]
theorem makes_out (a : Int) (i : Nat) : makesL (outI a i) = -1 := rfl

/-- The local of a number. -/
def loAt (lo : List Lo4) (v : Int) : Lo4 := lo.getD v.toNat lo0
/-- What holds while step i is made; temporary values are numbered from M on. -/
structure Inv (M : Int) (i : Nat) (c : CodeS) (next : Int) : Prop where
  mono : c.l.Pairwise (fun x y => x.step ≤ y.step)
  steps : ∀ x ∈ c.l, 0 ≤ x.step ∧ x.step ≤ i
  two : 0 ∈ c.opn ∧ 1 ∈ c.opn ∧ c.opn[0]? = some 0 ∧ c.opn[1]? = some 1
  inc : c.opn.Pairwise (· < ·)
  opn : ∀ v ∈ c.opn, 0 ≤ v ∧ v < (c.lo.length : Int) ∧ (loAt c.lo v).fr ≤ i
  first : ∀ v : Int, 0 ≤ v → v < 2 → (loAt c.lo v).fr = 0
  shut : ∀ v : Int, 2 ≤ v → v < (c.lo.length : Int) → v ∉ c.opn → (loAt c.lo v).fr ≤ (loAt c.lo v).till
  decl : ∀ v : Int, 2 ≤ v → v < (c.lo.length : Int) → 1 ≤ (loAt c.lo v).fr ∧ ∃ x ∈ c.l, makesL x = v ∧ x.step = (loAt c.lo v).fr - 1
  many : (c.lo.length : Int) ≤ M ∧ 2 ≤ (c.lo.length : Int) ∧ M ≤ next
  reads : ∀ (p : Nat) (x : I9), c.l[p]? = some x → ∀ v ∈ readsL x, (0 ≤ v ∧ v < (c.lo.length : Int) ∧ (2 ≤ v → (loAt c.lo v).fr ≤ x.step) ∧ (v ∉ c.opn → x.step < (loAt c.lo v).till)) ∨ (M ≤ v ∧ v < next ∧ ∃ (q : Nat) (y : I9), q < p ∧ c.l[q]? = some y ∧ makesL y = v)
  makes : ∀ x ∈ c.l, 0 ≤ makesL x → (makesL x < (c.lo.length : Int) ∧ (2 ≤ makesL x → (loAt c.lo (makesL x)).fr - 1 ≤ x.step) ∧ (makesL x ∉ c.opn → x.step < (loAt c.lo (makesL x)).till)) ∨ (M ≤ makesL x ∧ makesL x < next)
  once : ∀ (p q : Nat) (x y : I9), c.l[p]? = some x → c.l[q]? = some y → makesL x = makesL y → M ≤ makesL x → p = q

/-- A value that may be read: in scope, or made. -/
def Known (M : Int) (c : CodeS) (next : Int) (v : Int) : Prop := v ∈ c.opn ∨ (M ≤ v ∧ v < next ∧ ∃ y ∈ c.l, makesL y = v)
theorem get_snoc {α : Type} {l : List α} {a x : α} {p : Nat} (h : (l ++ [a])[p]? = some x) : l[p]? = some x ∨ (p = l.length ∧ x = a) := by
  rcases Nat.lt_or_ge p l.length with hp | hp
  · rw [List.getElem?_append_left hp] at h
    exact .inl h
  · rw [List.getElem?_append_right hp] at h
    have h0 : p - l.length = 0 := by
      by_cases h1 : p - l.length = 0
      · exact h1
      · obtain ⟨k, hk⟩ : ∃ k, p - l.length = k + 1 := ⟨p - l.length - 1, by omega⟩
        rw [hk] at h
        simp at h
    rw [h0] at h
    simp at h
    exact .inr ⟨by omega, h.symm⟩
theorem get_left {α : Type} {l : List α} {a x : α} {p : Nat} (h : l[p]? = some x) : (l ++ [a])[p]? = some x := by
  rw [List.getElem?_append_left (List.getElem?_eq_some_iff.1 h).1]
  exact h
theorem mem_at {α : Type} {l : List α} {x : α} (h : x ∈ l) : ∃ p : Nat, l[p]? = some x := by
  obtain ⟨p, hp, he⟩ := List.mem_iff_getElem.1 h
  exact ⟨p, by rw [List.getElem?_eq_getElem hp, he]⟩
section
variable {M : Int} {i : Nat} {c : CodeS} {next next' v last : Int} {r : OpsS}
theorem Inv.pos (h : Inv M i c next) {v : Int} (hv : Known M c next v) : 0 ≤ v := by
  rcases hv with hv | ⟨h1, _, _⟩
  · exact (h.opn v hv).1
  · have := h.many
    omega
/-- One more instruction of the step. -/
theorem Inv.push (h : Inv M i c next) {x : I9} (hs : x.step = (i : Int)) (hr : ∀ v ∈ readsL x, Known M c next v) 
    (hm : (makesL x < 0 ∧ next' = next) ∨ (makesL x ∈ c.opn ∧ next' = next) ∨ (makesL x = next ∧ next' = next + 1)) : Inv M i { c with l := c.l ++ [x] } next' := by
  have hnx : next ≤ next' := by rcases hm with ⟨_, e⟩ | ⟨_, e⟩ | ⟨_, e⟩ <;> omega
  refine ⟨?_, ?_, h.two, h.inc, h.opn, h.first, h.shut, ?_, ⟨h.many.1, h.many.2.1, by have := h.many.2.2; omega⟩, ?_, ?_, ?_⟩
  · refine List.pairwise_append.2 ⟨h.mono, by simp, fun a ha b hb => ?_⟩
    simp only [List.mem_singleton] at hb
    subst hb
    rw [hs]
    exact (h.steps a ha).2
  · intro a ha
    rcases List.mem_append.1 ha with ha | ha
    · exact h.steps a ha
    · simp only [List.mem_singleton] at ha
      subst ha
      omega
  · intro v h1 h2
    obtain ⟨h3, y, hy, h4⟩ := h.decl v h1 h2
    exact ⟨h3, y, List.mem_append_left _ hy, h4⟩
  · intro p a ha v hv
    rcases get_snoc ha with ha | ⟨rfl, rfl⟩
    · rcases h.reads p a ha v hv with h1 | ⟨h1, h2, q, y, h3, h4, h5⟩
      · exact .inl h1
      · exact .inr ⟨h1, by omega, q, y, h3, get_left h4, h5⟩
    · rcases hr v hv with h1 | ⟨h1, h2, y, h3, h4⟩
      · obtain ⟨o1, o2, o3⟩ := h.opn v h1
        exact .inl ⟨o1, o2, fun _ => by rw [hs]; exact o3, fun hn => absurd h1 hn⟩
      · obtain ⟨q, hq⟩ := mem_at h3
        exact .inr ⟨h1, by omega, q, y, (List.getElem?_eq_some_iff.1 hq).1, get_left hq, h4⟩
  · intro a ha h0
    rcases List.mem_append.1 ha with ha | ha
    · rcases h.makes a ha h0 with h1 | ⟨h1, h2⟩
      · exact .inl h1
      · exact .inr ⟨h1, by omega⟩
    · simp only [List.mem_singleton] at ha
      subst ha
      rcases hm with ⟨h1, _⟩ | ⟨h1, _⟩ | ⟨h1, h2⟩
      · omega
      · obtain ⟨o1, o2, o3⟩ := h.opn _ h1
        exact .inl ⟨o2, fun _ => by show (loAt c.lo (makesL _)).fr - 1 ≤ _; omega, fun hn => absurd h1 hn⟩
      · exact .inr ⟨by have := h.many.2.2; omega, by omega⟩
  · intro p q a b ha hb he hM
    have key : ∀ (p : Nat) (a : I9), c.l[p]? = some a → M ≤ makesL a → makesL a < next := fun p a ha hM => by
      have hlo := h.many
      rcases h.makes a (List.mem_of_getElem? ha) (by omega) with h1 | h1
      · omega
      · exact h1.2
    have hx : M ≤ makesL x → makesL x = next := fun h1 => by
      rcases hm with ⟨h2, _⟩ | ⟨h2, _⟩ | ⟨h2, _⟩
      · have := h.many; omega
      · have := (h.opn _ h2).2.1; have := h.many; omega
      · exact h2
    rcases get_snoc ha with ha' | ⟨hp, hax⟩
    · rcases get_snoc hb with hb' | ⟨hq, hbx⟩
      · exact h.once p q a b ha' hb' he hM
      · have h1 := key p a ha' hM
        rw [hbx] at he
        have h2 := hx (by omega)
        omega
    · rcases get_snoc hb with hb' | ⟨hq, hbx⟩
      · have h1 := key q b hb' (by omega)
        rw [hax] at he hM
        have h2 := hx hM
        omega
      · omega
theorem Known.push (h : Known M c next v) (x : I9) (hn : next ≤ next') : Known M { c with l := c.l ++ [x] } next' v := by
  rcases h with h | ⟨h1, h2, y, h3, h4⟩
  · exact .inl h
  · exact .inr ⟨h1, by omega, y, List.mem_append_left _ h3, h4⟩
theorem Inv.up (h : Inv M i c next) {j : Nat} (hj : i ≤ j) : Inv M j c next :=
  ⟨h.mono, fun x hx => by have := h.steps x hx; omega, h.two, h.inc, fun v hv => by have := h.opn v hv; omega, h.first, h.shut, h.decl, h.many, h.reads, h.makes, h.once⟩
theorem Inv.next0 (h : Inv M i c next) : 0 ≤ next := by have := h.many; omega
/-- The instructions of a step's operations. -/
theorem Inv.ops (h : Inv M i { c with l := r.l } r.next) (hl : Known M { c with l := r.l } r.next r.last) (ho : 0 < c.opn.length) (k o : Nat) :
    Inv M i { c with l := (opS i c.opn r k o).l } (opS i c.opn r k o).next ∧ Known M { c with l := (opS i c.opn r k o).l } (opS i c.opn r k o).next (opS i c.opn r k o).last := by
  have hn := h.next0
  have hp := h.pos hl
  unfold opS
  split
  · have h1 : Inv M i { c with l := if 0 < k then r.l ++ [outI r.last i] else r.l } r.next := by
      split
      · exact h.push (x := outI r.last i) rfl (fun v hv => by rw [reads_out hp] at hv; simp only [List.mem_singleton] at hv; subst hv; exact hl) (.inl ⟨by rw [makes_out]; omega, rfl⟩)
      · exact h
    refine ⟨h1.push (x := constI r.next (o : Int) i) rfl (fun v hv => by rw [reads_const] at hv; cases hv) (.inr (.inr ⟨makes_const hn _ _, rfl⟩)), ?_⟩
    exact .inr ⟨h.many.2.2, by show r.next < r.next + 1; omega, constI r.next (o : Int) i, List.mem_append_right _ (by simp), makes_const hn _ _⟩
  · have hq : pickO c.opn (o / 4) ∈ c.opn := pickO_mem ho _
    have hq0 : 0 ≤ pickO c.opn (o / 4) := (h.opn _ hq).1
    refine ⟨h.push (x := binI r.next r.last (pickO c.opn (o / 4)) i) rfl (fun v hv => ?_) (.inr (.inr ⟨makes_bin hn _ _ _, rfl⟩)), ?_⟩
    · rw [reads_bin hp hq0] at hv
      simp only [List.mem_cons, List.mem_nil_iff, or_false] at hv
      rcases hv with rfl | rfl
      · exact hl
      · exact .inl hq
    · exact .inr ⟨h.many.2.2, by show r.next < r.next + 1; omega, binI r.next r.last (pickO c.opn (o / 4)) i, List.mem_append_right _ (by simp), makes_bin hn _ _ _⟩
theorem Inv.opsAll (h : Inv M i { c with l := r.l } r.next) (hl : Known M { c with l := r.l } r.next r.last) (ho : 0 < c.opn.length) (ops : List Nat) : ∀ k,
    Inv M i { c with l := (opsTo i c.opn r ops k).l } (opsTo i c.opn r ops k).next ∧ Known M { c with l := (opsTo i c.opn r ops k).l } (opsTo i c.opn r ops k).next (opsTo i c.opn r ops k).last
  | 0 => ⟨h, hl⟩
  | k + 1 => by
    obtain ⟨h1, h2⟩ := Inv.opsAll h hl ho ops k
    exact h1.ops h2 ho _ _
theorem loAt_snoc {lo : List Lo4} {z : Lo4} {v : Int} (h0 : 0 ≤ v) (h1 : v < (lo.length : Int)) : loAt (lo ++ [z]) v = loAt lo v := by
  unfold loAt
  rw [List.getD, List.getD, List.getElem?_append_left (by omega)]
theorem loAt_last {lo : List Lo4} {z : Lo4} : loAt (lo ++ [z]) (lo.length : Int) = z := by
  unfold loAt
  simp
theorem loAt_set {lo : List Lo4} {v u : Int} {t : Int} (hv : 0 ≤ v) (hu : 0 ≤ u) (hl : u < (lo.length : Int)) : loAt (setTill lo v t) u = if v = u then { loAt lo u with till := t } else loAt lo u := by
  unfold loAt setTill
  rw [List.getD, List.getD, List.getElem?_modify]
  have hul : u.toNat < lo.length := by omega
  rw [List.getElem?_eq_getElem hul]
  by_cases h : v = u
  · subst h
    simp
  · have h2 : v.toNat ≠ u.toNat := by omega
    simp [h, h2]
/-- A local is declared. -/
theorem Inv.declare (h : Inv M i c next) (hl : Known M c next last) (hM : (c.lo.length : Int) + 1 ≤ M) :
    Inv M (i + 1) ⟨c.l ++ [moveI (c.lo.length : Int) last i], c.lo ++ [⟨⟨#[]⟩, 0, (i : Int) + 1, 0⟩], c.opn ++ [(c.lo.length : Int)]⟩ next := by
  have hp := h.pos hl
  have h2 := h.many.2.1
  have hr := reads_move hp (c.lo.length : Int) i
  have hm : makesL (moveI (c.lo.length : Int) last i) = (c.lo.length : Int) := makes_move (by omega) _ _
  have hlen : ((c.lo ++ [⟨⟨#[]⟩, 0, (i : Int) + 1, 0⟩] : List Lo4).length : Int) = (c.lo.length : Int) + 1 := by simp
  have hno : ∀ v : Int, 0 ≤ v → v < (c.lo.length : Int) → v ∉ c.opn ++ [(c.lo.length : Int)] → v ∉ c.opn := fun v _ _ hn hm => hn (List.mem_append_left _ hm)
  refine ⟨?_, ?_, ?_, ?_, ?_, ?_, ?_, ?_, ?_, ?_, ?_, ?_⟩
  · refine List.pairwise_append.2 ⟨h.mono, by simp, fun a ha b hb => ?_⟩
    simp only [List.mem_singleton] at hb
    subst hb
    exact (h.steps a ha).2
  · intro a ha
    rcases List.mem_append.1 ha with ha | ha
    · have := h.steps a ha
      omega
    · simp only [List.mem_singleton] at ha
      subst ha
      show 0 ≤ (i : Int) ∧ (i : Int) ≤ _
      omega
  · obtain ⟨t1, t2, t3, t4⟩ := h.two
    exact ⟨List.mem_append_left _ t1, List.mem_append_left _ t2, get_left t3, get_left t4⟩
  · refine List.pairwise_append.2 ⟨h.inc, by simp, fun a ha b hb => ?_⟩
    simp only [List.mem_singleton] at hb
    subst hb
    exact (h.opn a ha).2.1
  · intro v hv
    rcases List.mem_append.1 hv with hv | hv
    · obtain ⟨o1, o2, o3⟩ := h.opn v hv
      refine ⟨o1, by rw [hlen]; omega, ?_⟩
      rw [loAt_snoc o1 o2]
      omega
    · simp only [List.mem_singleton] at hv
      subst hv
      refine ⟨by omega, by rw [hlen]; omega, ?_⟩
      rw [loAt_last]
      simp
  · intro v v0 v2
    rw [loAt_snoc v0 (by omega)]
    exact h.first v v0 v2
  · intro v v2 vl hn
    rw [hlen] at vl
    by_cases hv : v = (c.lo.length : Int)
    · subst hv
      exact absurd (List.mem_append_right _ (by simp)) hn
    · rw [loAt_snoc (by omega) (by omega)]
      exact h.shut v v2 (by omega) (hno v (by omega) (by omega) hn)
  · intro v v2 vl
    rw [hlen] at vl
    by_cases hv : v = (c.lo.length : Int)
    · subst hv
      rw [loAt_last]
      exact ⟨by show 1 ≤ (i : Int) + 1; omega, _, List.mem_append_right _ (by simp), hm, by show (i : Int) = (i : Int) + 1 - 1; omega⟩
    · rw [loAt_snoc (by omega) (by omega)]
      obtain ⟨d1, y, d2, d3⟩ := h.decl v v2 (by omega)
      exact ⟨d1, y, List.mem_append_left _ d2, d3⟩
  · rw [hlen]
    have := h.many
    omega
  · intro p a ha v hv
    rw [hlen]
    rcases get_snoc ha with ha | ⟨hp', hax⟩
    · rcases h.reads p a ha v hv with ⟨r1, r2, r3, r4⟩ | ⟨h1, h2', q, y, h3, h4, h5⟩
      · refine .inl ⟨r1, by omega, fun v2 => ?_, fun hn => ?_⟩
        · rw [loAt_snoc r1 r2]
          exact r3 v2
        · rw [loAt_snoc r1 r2]
          exact r4 (hno v r1 r2 hn)
      · exact .inr ⟨h1, h2', q, y, h3, get_left h4, h5⟩
    · rw [hax, hr] at hv
      simp only [List.mem_singleton] at hv
      subst hv
      rcases hl with h1 | ⟨h1, h2', y, h3, h4⟩
      · obtain ⟨o1, o2, o3⟩ := h.opn _ h1
        refine .inl ⟨o1, by omega, fun _ => ?_, fun hn => absurd (List.mem_append_left _ h1) hn⟩
        rw [loAt_snoc o1 o2, hax]
        exact o3
      · obtain ⟨q, hq⟩ := mem_at h3
        exact .inr ⟨h1, h2', q, y, by rw [hp']; exact (List.getElem?_eq_some_iff.1 hq).1, get_left hq, h4⟩
  · intro a ha h0
    rw [hlen]
    rcases List.mem_append.1 ha with ha | ha
    · rcases h.makes a ha h0 with ⟨m1, m2, m3⟩ | h1
      · refine .inl ⟨by omega, fun v2 => ?_, fun hn => ?_⟩
        · rw [loAt_snoc h0 m1]
          exact m2 v2
        · rw [loAt_snoc h0 m1]
          exact m3 (hno _ h0 m1 hn)
      · exact .inr h1
    · simp only [List.mem_singleton] at ha
      subst ha
      rw [hm]
      refine .inl ⟨by omega, fun _ => ?_, fun hn => absurd (List.mem_append_right _ (by simp)) hn⟩
      rw [loAt_last]
      show (i : Int) + 1 - 1 ≤ (i : Int)
      omega
  · intro p q a b ha hb he hMa
    rcases get_snoc ha with ha' | ⟨hp', hax⟩
    · rcases get_snoc hb with hb' | ⟨hq', hbx⟩
      · exact h.once p q a b ha' hb' he hMa
      · rw [hbx, hm] at he
        omega
    · rw [hax, hm] at hMa
      omega
end
end Go.Proofs.Ytfmkfmcplffhdaa

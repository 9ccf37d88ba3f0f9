/- The document's spans are those of live.Spans, plainly. Conditions: sizes. -/
import Derived.Test.YtfmkfmcplffhdaaLvAA
import Derived.Test.YtfmkfmcplffhdaaLvRb
namespace Go.Proofs.Ytfmkfmcplffhdaa
set_option linter.unusedVariables false
/-- Where a local is declared, or the number of instructions. -/
def declN (l : List I9) (v fr : Int) : Nat := l.findIdx (fun i => decide (makesL i = v) && decide (i.step = fr - 1))
def rlocal (l : List I9) (v : Int) (x : Lo4) (param : Bool) : Sp3 :=
  if param then ⟨v, 0, beginsN l x.till⟩ else ⟨v, if declN l v x.fr < l.length then (declN l v x.fr : Int) else beginsN l x.fr, beginsN l x.till⟩
theorem isDecl_iff {l : List I9} {v fr : Int} {p : Nat} {x : I9} (hx : l[p]? = some x) {t : T3} (ht : t ∈ touchI p x) : isDecl l v fr t = true ↔ t.made = true ∧ makesL x = v ∧ x.step = fr - 1 ∧ 0 ≤ makesL x := by
  obtain ⟨h1, h2⟩ := touchI_at ht
  unfold isDecl
  have hs : stepAt l t.at' = x.step := by unfold stepAt; rw [h1, hx]
  rw [hs]
  simp only [Bool.and_eq_true, decide_eq_true_eq]
  rcases h2 with ⟨h3, h4⟩ | ⟨h3, h4, h5⟩
  · rw [h3]
    simp
  · rw [h3, h4]
    constructor
    · rintro ⟨⟨h6, _⟩, h7⟩
      exact ⟨rfl, h6, h7, h5⟩
    · rintro ⟨_, h6, h7, _⟩
      exact ⟨⟨h6, rfl⟩, h7⟩
theorem rlocal_eq {l : List I9} {v : Int} (v0 : 0 ≤ v) (x : Lo4) (param : Bool) : rlocal l v x param = localL l v x param := by
  unfold rlocal localL
  cases param with
  | true => rfl
  | false =>
    simp only [Bool.false_eq_true, if_false]
    cases hf : (touchL l).find? (isDecl l v x.fr) with
    | some t =>
      have htm := List.mem_of_find?_eq_some hf
      have hdt := List.find?_some hf
      obtain ⟨y, hy, hyt⟩ := of_touch htm
      have hyI : t ∈ touchI t.at' y := by
        unfold touchI touchR
        rcases hyt with ⟨h1, h2⟩ | ⟨h1, h2, h3⟩
        · refine List.mem_append_left _ (List.mem_map.2 ⟨t.v, h2, ?_⟩)
          cases t; simp at h1; simp [h1]
        · refine List.mem_append_right _ ?_
          rw [if_pos h3, List.mem_singleton]
          cases t; simp at h1 h2; simp [h1, h2]
      obtain ⟨q1, q2, q3, q4⟩ := (isDecl_iff hy hyI).1 hdt
      have hlen := (List.getElem?_eq_some_iff.1 hy).1
      have hget := (List.getElem?_eq_some_iff.1 hy).2
      have hle : declN l v x.fr ≤ t.at' := by
        unfold declN
        apply Nat.le_of_not_lt
        intro hlt
        have := List.not_of_lt_findIdx hlt
        rw [hget] at this
        simp [q2, q3] at this
      have hlt : declN l v x.fr < l.length := by omega
      have hP := List.findIdx_getElem (w := hlt)
      simp only [Bool.and_eq_true, decide_eq_true_eq] at hP
      have hx2 : l[declN l v x.fr]? = some l[declN l v x.fr] := List.getElem?_eq_getElem hlt
      have hge : t.at' ≤ declN l v x.fr := by
        have hm := mem_make hx2 (by rw [show makesL l[declN l v x.fr] = v from hP.1]; exact v0)
        have h2 := find_min (touch_sorted l) hf _ hm (by
          refine (isDecl_iff hx2 (t := ⟨makesL l[declN l v x.fr], declN l v x.fr, true⟩) ?_).2 ⟨rfl, hP.1, hP.2, by rw [show makesL l[declN l v x.fr] = v from hP.1]; exact v0⟩
          unfold touchI
          refine List.mem_append_right _ ?_
          rw [if_pos (by rw [show makesL l[declN l v x.fr] = v from hP.1]; exact v0)]
          simp)
        exact h2
      have he : declN l v x.fr = t.at' := by omega
      rw [if_pos hlt, he]
    | none =>
      have hno : ¬ declN l v x.fr < l.length := by
        intro hlt
        have hP := List.findIdx_getElem (w := hlt)
        simp only [Bool.and_eq_true, decide_eq_true_eq] at hP
        have hx2 : l[declN l v x.fr]? = some l[declN l v x.fr] := List.getElem?_eq_getElem hlt
        have h0 : 0 ≤ makesL l[declN l v x.fr] := by rw [show makesL l[declN l v x.fr] = v from hP.1]; exact v0
        have hm := mem_make hx2 h0
        have := List.find?_eq_none.1 hf _ hm
        refine this ((isDecl_iff hx2 (t := ⟨makesL l[declN l v x.fr], declN l v x.fr, true⟩) ?_).2 ⟨rfl, hP.1, hP.2, h0⟩)
        unfold touchI
        refine List.mem_append_right _ ?_
        rw [if_pos h0]
        simp
      rw [if_neg hno]
/-! Temporary values. -/
structure FT where
  fr : Int
  till : Int
def valStep (v : Int) (p : Nat) (s : FT) (x : I9) : FT := ⟨if makesL x = v ∧ s.fr < 0 then (p : Int) else s.fr, if v ∈ readsL x then (p : Int) else s.till⟩
def valTo (l : List I9) (v : Int) : Nat → FT
  | 0 => ⟨-1, -1⟩
  | p + 1 => match l[p]? with
    | none => valTo l v p
    | some x => valStep v p (valTo l v p) x
theorem valTo_succ {l : List I9} {v : Int} {p : Nat} {x : I9} (h : l[p]? = some x) : valTo l v (p + 1) = valStep v p (valTo l v p) x := by
  show (match l[p]? with | none => valTo l v p | some x => valStep v p (valTo l v p) x) = _
  rw [h]
def rvalS (s : FT) (v : Int) : Option Sp3 :=
  if s.fr < 0 ∧ s.till < 0 then none else
  some ⟨v, if s.fr < 0 then s.till else s.fr, if s.till < 0 then (if s.fr < 0 then s.till else s.fr) else s.till⟩
def rval (l : List I9) (v : Int) : Option Sp3 := rvalS (valTo l v l.length) v
def simV (s : FT) (u : Sn4) : Prop := s.fr = (if u.isMade then (u.made : Int) else -1) ∧ s.till = (if u.isIn then (u.read : Int) else -1)
theorem foldR {k : Nat} {v : Int} : ∀ (rs : List Int) (u : Sn4), ((touchR k rs).filter (fun t => decide (t.v = v))).foldl updS u = if v ∈ rs then { u with read := k, isIn := true } else u
  | [], u => rfl
  | r :: rs, u => by
    unfold touchR
    rw [List.map_cons, List.filter_cons]
    by_cases h : r = v
    · have ih := foldR (k := k) (v := v) rs { u with read := k, isIn := true }
      unfold touchR at ih
      simp only [h, decide_true, if_true, List.foldl_cons, List.mem_cons, true_or]
      rw [show updS u ⟨v, k, false⟩ = { u with read := k, isIn := true } from rfl, ih]
      split <;> rfl
    · have ih := foldR (k := k) (v := v) rs u
      unfold touchR at ih
      have h2 : ¬ v = r := fun e => h e.symm
      simp only [h, decide_false, Bool.false_eq_true, if_false, List.mem_cons, h2, false_or]
      exact ih
theorem sim_val {v : Int} (v0 : 0 ≤ v) {s : FT} {u : Sn4} (h : simV s u) (p : Nat) (x : I9) : simV (valStep v p s x) (((touchI p x).filter (fun t => decide (t.v = v))).foldl updS u) := by
  unfold touchI
  rw [List.filter_append, List.foldl_append, foldR]
  obtain ⟨h1, h2⟩ := h
  have hA : simV ⟨s.fr, if v ∈ readsL x then (p : Int) else s.till⟩ (if v ∈ readsL x then { u with read := p, isIn := true } else u) := by
    by_cases hr : v ∈ readsL x
    · rw [if_pos hr, if_pos hr]
      exact ⟨h1, rfl⟩
    · rw [if_neg hr, if_neg hr]
      exact ⟨h1, h2⟩
  unfold valStep
  generalize (if v ∈ readsL x then (p : Int) else s.till) = b at *
  generalize (if v ∈ readsL x then { u with read := p, isIn := true } else u) = u' at *
  obtain ⟨k1, k2⟩ := hA
  simp only at k1 k2
  by_cases hm : makesL x = v
  · have e0 : (if 0 ≤ makesL x then [(⟨makesL x, p, true⟩ : T3)] else []) = [⟨makesL x, p, true⟩] := if_pos (by omega)
    rw [e0, List.filter_cons]
    simp only [hm, decide_true, if_true, List.filter_nil, List.foldl_cons, List.foldl_nil, true_and]
    show simV _ (if u'.isMade then u' else { u' with made := p, isMade := true })
    by_cases hi : u'.isMade = true
    · rw [if_pos hi]
      rw [hi] at k1
      simp only [if_true] at k1
      refine ⟨?_, k2⟩
      rw [hi]
      simp only [if_true]
      rw [if_neg (by omega)]
      exact k1
    · simp only [hi] at k1
      rw [if_neg hi]
      have : s.fr = -1 := by simpa using k1
      refine ⟨?_, k2⟩
      rw [if_pos (by omega)]
      rfl
  · have hn : ((if 0 ≤ makesL x then [(⟨makesL x, p, true⟩ : T3)] else []).filter (fun t => decide (t.v = v))) = [] := by
      split
      · simp [hm]
      · rfl
    rw [hn]
    refine ⟨?_, k2⟩
    show (if makesL x = v ∧ s.fr < 0 then (p : Int) else s.fr) = _
    rw [if_neg (fun h => hm h.1)]
    exact k1
theorem sim_all {v : Int} (v0 : 0 ≤ v) (l : List I9) : ∀ p, p ≤ l.length → simV (valTo l v p) (((touchL (l.take p)).filter (fun t => decide (t.v = v))).foldl updS sn0)
  | 0, _ => ⟨rfl, rfl⟩
  | p + 1, h => by
    have hx : l[p]? = some l[p] := List.getElem?_eq_getElem (by omega)
    rw [valTo_succ hx, touch_take_succ hx, List.filter_append, List.foldl_append]
    exact sim_val v0 (sim_all v0 l p (by omega)) p _
theorem fold_mono : ∀ (ts : List T3) (u : Sn4), (u.isMade = true → (ts.foldl updS u).isMade = true) ∧ (u.isIn = true → (ts.foldl updS u).isIn = true)
  | [], u => ⟨id, id⟩
  | t :: r, u => by
    rw [List.foldl_cons]
    obtain ⟨h1, h2⟩ := fold_mono r (updS u t)
    refine ⟨fun h => h1 ?_, fun h => h2 ?_⟩ <;> unfold updS <;> split <;> (try split) <;> simp_all
theorem fold_flag' : ∀ (ts : List T3) (u : Sn4), ts ≠ [] → (ts.foldl updS u).isMade = true ∨ (ts.foldl updS u).isIn = true
  | [], u, h => absurd rfl h
  | t :: r, u, _ => by
    rw [List.foldl_cons]
    cases ht : t.made with
    | true =>
      left
      refine (fold_mono r _).1 ?_
      unfold updS
      rw [ht]
      simp only [if_true]
      split
      · assumption
      · rfl
    | false =>
      right
      refine (fold_mono r _).2 ?_
      unfold updS
      rw [ht]
      rfl
/-- The span of a value that occurs. -/
theorem rval_some {l : List I9} {v : Int} {n : Nat} (v0 : (n : Int) ≤ v) : rval l v = if (∃ t ∈ touchL l, t.v = v) then some (spanS (atS (knownL n l) v) v) else none := by
  have hs := sim_all (v := v) (by omega) l l.length (Nat.le_refl _)
  rw [List.take_length] at hs
  have hk : atS (knownL n l) v = ((touchL l).filter (fun t => decide (t.v = v))).foldl updS sn0 := know_at n (touchL l) [] v v0
  rw [hk]
  unfold rval rvalS
  by_cases he : ∃ t ∈ touchL l, t.v = v
  · rw [if_pos he]
    obtain ⟨t, ht, htv⟩ := he
    have hflag : (((touchL l).filter (fun t => decide (t.v = v))).foldl updS sn0).isMade = true ∨ (((touchL l).filter (fun t => decide (t.v = v))).foldl updS sn0).isIn = true := by
      have hmem : t ∈ (touchL l).filter (fun t => decide (t.v = v)) := List.mem_filter.2 ⟨ht, by simp [htv]⟩
      have := fold_flag' ((touchL l).filter (fun t => decide (t.v = v))) sn0 (List.ne_nil_of_mem hmem)
      exact this
    generalize ((touchL l).filter (fun t => decide (t.v = v))).foldl updS sn0 = u at *
    obtain ⟨h1, h2⟩ := hs
    unfold spanS
    cases hm : u.isMade <;> cases hi : u.isIn <;> rw [hm] at h1 <;> rw [hi] at h2 <;> simp at h1 h2
    · rw [hm, hi] at hflag
      simp at hflag
    · rw [if_neg (by omega), if_pos (by omega), if_neg (by omega)]
      simp [h2]
    · rw [if_neg (by omega), if_neg (by omega), if_pos (by omega)]
      simp [h1]
    · rw [if_neg (by omega), if_neg (by omega), if_neg (by omega)]
      simp [h1, h2]
  · rw [if_neg he]
    have hnil : (touchL l).filter (fun t => decide (t.v = v)) = [] := List.filter_eq_nil_iff.2 fun t ht h => he ⟨t, ht, by simpa using h⟩
    rw [hnil] at hs
    obtain ⟨h1, h2⟩ := hs
    have h1' : (valTo l v l.length).fr = -1 := h1
    have h2' : (valTo l v l.length).till = -1 := h2
    rw [if_pos (by omega)]
def tempsTo (l : List I9) (n : Nat) : Nat → List Sp3
  | 0 => []
  | j + 1 => tempsTo l n j ++ (rval l ((n + j : Nat) : Int)).toList
theorem filt_succ (m : Int) : ∀ (ks : List Int), ks.Pairwise (· < ·) → ks.filter (fun v => decide (v < m + 1)) = ks.filter (fun v => decide (v < m)) ++ (if m ∈ ks then [m] else [])
  | [], _ => rfl
  | a :: r, h => by
    obtain ⟨h1, h2⟩ := List.pairwise_cons.1 h
    have ih := filt_succ m r h2
    rw [List.filter_cons, List.filter_cons]
    by_cases ha : a < m
    · have hb : ¬ m = a := by omega
      simp only [show a < m + 1 by omega, ha, decide_true, if_true, List.mem_cons, hb, false_or, List.cons_append]
      rw [ih]
    · have hnil : r.filter (fun v => decide (v < m)) = [] := List.filter_eq_nil_iff.2 fun y hy h => by
        have := h1 y hy
        simp at h
        omega
      by_cases he : a = m
      · subst he
        have hn2 : r.filter (fun v => decide (v < a + 1)) = [] := List.filter_eq_nil_iff.2 fun y hy h => by
          have := h1 y hy
          simp at h
          omega
        simp [hnil, hn2, show a < a + 1 by omega]
      · have hn2 : r.filter (fun v => decide (v < m + 1)) = [] := List.filter_eq_nil_iff.2 fun y hy h => by
          have := h1 y hy
          simp at h
          omega
        have hm : m ∉ r := fun hm => by have := h1 m hm; omega
        have h3 : ¬ a < m + 1 := by omega
        have h4 : ¬ m = a := fun e => he e.symm
        simp [hnil, hn2, h3, ha, hm, h4]
theorem keysL_iff {l : List I9} {n : Nat} {v : Int} : v ∈ keysL (knownL n l) ↔ (n : Int) ≤ v ∧ ∃ t ∈ touchL l, t.v = v := by
  rw [keys_mem]
  unfold knownL
  rw [know_keys]
  simp
theorem keys_sort (l : List I9) (n : Nat) : (keysL (knownL n l)).Pairwise (· < ·) := keys_ord (by unfold knownL; exact know_nodup n _ _ (by simp))
theorem temps_step (l : List I9) (n : Nat) : ∀ j : Nat, tempsTo l n j = ((keysL (knownL n l)).filter (fun v => decide (v < (n : Int) + (j : Int)))).map (fun v => spanS (atS (knownL n l) v) v)
  | 0 => by
    have : (keysL (knownL n l)).filter (fun v => decide (v < (n : Int) + ((0 : Nat) : Int))) = [] := List.filter_eq_nil_iff.2 fun v hv h => by
      have := (keysL_iff.1 hv).1
      simp at h
      omega
    rw [this]
    rfl
  | j + 1 => by
    show tempsTo l n j ++ _ = _
    rw [temps_step l n j, show (n : Int) + ((j + 1 : Nat) : Int) = ((n + j : Nat) : Int) + 1 by omega, show (n : Int) + (j : Int) = ((n + j : Nat) : Int) by omega, filt_succ _ _ (keys_sort l n), List.map_append, rval_some (n := n) (by omega)]
    congr 1
    by_cases he : ∃ t ∈ touchL l, t.v = ((n + j : Nat) : Int)
    · rw [if_pos he, if_pos (keysL_iff.2 ⟨by omega, he⟩)]
      rfl
    · rw [if_neg he, if_neg (fun h => he (keysL_iff.1 h).2)]
      rfl
theorem temps_eq {l : List I9} {n j : Nat} (h : ∀ t ∈ touchL l, t.v < (n : Int) + (j : Int)) : tempsTo l n j = tempsL (knownL n l) := by
  rw [temps_step]
  unfold tempsL
  congr 1
  refine List.filter_eq_self.2 fun v hv => ?_
  obtain ⟨_, t, ht, rfl⟩ := keysL_iff.1 hv
  simpa using h t ht
theorem mostR_ge : ∀ (rs : List Int) (n : Int), n ≤ mostR n rs ∧ ∀ r ∈ rs, r ≤ mostR n rs
  | [], n => ⟨Int.le_refl _, by simp⟩
  | r :: rs, n => by
    obtain ⟨h1, h2⟩ := mostR_ge rs (max n r)
    have h3 : mostR n (r :: rs) = mostR (max n r) rs := rfl
    rw [h3]
    refine ⟨by omega, fun x hx => ?_⟩
    rcases List.mem_cons.1 hx with rfl | hx
    · omega
    · exact h2 x hx
theorem most_ge : ∀ (l : List I9) (n : Int), n ≤ l.foldl mostI n ∧ ∀ x ∈ l, makesL x ≤ l.foldl mostI n ∧ ∀ r ∈ readsL x, r ≤ l.foldl mostI n
  | [], n => ⟨Int.le_refl _, by simp⟩
  | x :: l, n => by
    obtain ⟨h1, h2⟩ := most_ge l (mostI n x)
    obtain ⟨h3, h4⟩ := mostR_ge (readsL x) (max n (makesL x))
    have h5 : mostI n x = mostR (max n (makesL x)) (readsL x) := rfl
    rw [List.foldl_cons]
    refine ⟨by omega, fun y hy => ?_⟩
    rcases List.mem_cons.1 hy with rfl | hy
    · exact ⟨by omega, fun r hr => by have := h4 r hr; omega⟩
    · exact h2 y hy
theorem touch_most {l : List I9} {t : T3} (h : t ∈ touchL l) : t.v ≤ mostL l := by
  obtain ⟨x, hx, h1⟩ := of_touch h
  obtain ⟨h2, h3⟩ := (most_ge l (-1)).2 x (List.mem_of_getElem? hx)
  rcases h1 with ⟨_, h1⟩ | ⟨_, h1, _⟩
  · exact h3 _ h1
  · rw [h1]; exact h2
end Go.Proofs.Ytfmkfmcplffhdaa

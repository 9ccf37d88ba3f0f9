/- Values that are no locals, numbered otherwise: spans are the same. Plain; no condition. -/
import Derived.Test.YtfmkfmcplffhdaaLvAA
import Derived.Test.YtfmkfmcplffhdaaLvSm
import Derived.Lib.SlKeysI
namespace Go.Proofs.Ytfmkfmcplffhdaa
set_option linter.unusedVariables false

def mv (fr by' n : Int) : Int := if n < fr then n else n + by'
def mvI (fr by' : Int) (x : I9) : I9 := { x with d := if 0 ≤ makesL x then mv fr by' x.d else x.d, a := if 0 < (readsL x).length then mv fr by' x.a else x.a, b := if 1 < (readsL x).length then mv fr by' x.b else x.b }
def mvS (fr by' : Int) (s : Sp3) : Sp3 := { s with v := mv fr by' s.v }
def mvT (fr by' : Int) (t : T3) : T3 := { t with v := mv fr by' t.v }
section
variable {fr by' : Int}
theorem mv_lt {a b : Int} (hb : 0 ≤ by') (h : a < b) : mv fr by' a < mv fr by' b := by
  unfold mv
  split <;> split <;> omega
theorem mv_inj {a b : Int} (hb : 0 ≤ by') (h : mv fr by' a = mv fr by' b) : a = b := by
  unfold mv at h
  split at h <;> split at h <;> omega
theorem mv_low {a : Int} (h : a < fr) : mv fr by' a = a := by unfold mv; rw [if_pos h]
theorem mv_is {a v : Int} (hb : 0 ≤ by') (hv : v < fr) : mv fr by' a = v ↔ a = v := by
  constructor
  · intro h
    exact mv_inj hb (h.trans (mv_low hv).symm)
  · intro h
    rw [h]
    exact mv_low hv
theorem mv_low_iff {a : Int} (hb : 0 ≤ by') : mv fr by' a < fr ↔ a < fr := by
  unfold mv
  split <;> omega
theorem mvI_of (hf : 0 ≤ fr) (hb : 0 ≤ by') {x : I9} (hx : Sm x) : readsL (mvI fr by' x) = (readsL x).map (mv fr by') ∧ makesL (mvI fr by' x) = mv fr by' (makesL x) ∧ (mvI fr by' x).step = x.step := by
  obtain ⟨d0, _, a0, _, b0, _⟩ := hx
  have ma : 0 ≤ mv fr by' x.a := by unfold mv; split <;> omega
  have mb : 0 ≤ mv fr by' x.b := by unfold mv; split <;> omega
  have md : 0 ≤ mv fr by' x.d := by unfold mv; split <;> omega
  have hop : (mvI fr by' x).op = x.op := rfl
  have hm1 : mv fr by' (-1) = -1 := mv_low (by omega)
  refine ⟨?_, ?_, rfl⟩
  · cases hk : kindU x.op with
    | none =>
      have h1 : readsL x = [] := by unfold readsL; rw [hk]
      have h2 : readsL (mvI fr by' x) = [] := by unfold readsL; rw [hop, hk]
      rw [h1, h2]
      rfl
    | some p =>
      obtain ⟨k, m⟩ := p
      have h1 : readsL x = keep0 (rawU k x.a x.b) := by unfold readsL; rw [hk]
      have h2 : readsL (mvI fr by' x) = keep0 (rawU k (mvI fr by' x).a (mvI fr by' x).b) := by unfold readsL; rw [hop, hk]
      have hk3 := (kind_some hk).1
      have hk' : k = 0 ∨ k = 1 ∨ k = 2 := by omega
      rcases hk' with rfl | rfl | rfl
      · rw [h2, h1]
        rfl
      · have h3 : readsL x = [x.a] := by rw [h1]; simp [rawU, keep0, a0]
        have h4 : (mvI fr by' x).a = mv fr by' x.a := by show (if 0 < (readsL x).length then _ else _) = _; rw [h3]; simp
        rw [h2, h3, h4]
        simp [rawU, keep0, ma]
      · have h3 : readsL x = [x.a, x.b] := by rw [h1]; simp [rawU, keep0, a0, b0]
        have h4 : (mvI fr by' x).a = mv fr by' x.a := by show (if 0 < (readsL x).length then _ else _) = _; rw [h3]; simp
        have h5 : (mvI fr by' x).b = mv fr by' x.b := by show (if 1 < (readsL x).length then _ else _) = _; rw [h3]; simp
        rw [h2, h3, h4, h5]
        simp [rawU, keep0, ma, mb]
  · cases hk : kindU x.op with
    | none =>
      have h1 : makesL x = -1 := by unfold makesL; rw [hk]
      have h2 : makesL (mvI fr by' x) = -1 := by unfold makesL; rw [hop, hk]
      rw [h1, h2, hm1]
    | some p =>
      obtain ⟨k, m⟩ := p
      cases m with
      | false =>
        have h1 : makesL x = -1 := by unfold makesL; rw [hk]
        have h2 : makesL (mvI fr by' x) = -1 := by unfold makesL; rw [hop, hk]
        rw [h1, h2, hm1]
      | true =>
        have h1 : makesL x = x.d := by unfold makesL; rw [hk]; show max (-1) x.d = x.d; omega
        have h2 : (mvI fr by' x).d = mv fr by' x.d := by show (if 0 ≤ makesL x then _ else _) = _; rw [h1, if_pos d0]
        have h3 : makesL (mvI fr by' x) = max (-1) (mvI fr by' x).d := by unfold makesL; rw [hop, hk]
        rw [h3, h2, h1]
        omega
theorem touch_mv (hf : 0 ≤ fr) (hb : 0 ≤ by') : ∀ (k : Nat) (l : List I9), (∀ x ∈ l, Sm x) → touchFrom k (l.map (mvI fr by')) = (touchFrom k l).map (mvT fr by')
  | k, [], _ => rfl
  | k, x :: r, h => by
    obtain ⟨h1, h2, _⟩ := mvI_of hf hb (h x (by simp))
    have ih := touch_mv hf hb (k + 1) r (fun y hy => h y (List.mem_cons_of_mem _ hy))
    rw [List.map_cons, touchFrom, touchFrom, List.map_append, ih]
    congr 1
    unfold touchI touchR
    rw [h1, h2, List.map_append, List.map_map, List.map_map]
    congr 1
    by_cases h0 : 0 ≤ makesL x
    · have : 0 ≤ mv fr by' (makesL x) := by unfold mv; split <;> omega
      rw [if_pos h0, if_pos this]
      rfl
    · have : ¬ 0 ≤ mv fr by' (makesL x) := by unfold mv; split <;> omega
      rw [if_neg h0, if_neg this]
      rfl
theorem begins_mv (l : List I9) (st : Int) : beginsN (l.map (mvI fr by')) st = beginsN l st := by
  unfold beginsN
  rw [List.findIdx_map]
  rfl
theorem stepAt_mv (l : List I9) (k : Nat) : stepAt (l.map (mvI fr by')) k = stepAt l k := by
  unfold stepAt
  rw [List.getElem?_map]
  cases l[k]? <;> rfl
theorem local_mv (hf : 0 ≤ fr) (hb : 0 ≤ by') {l : List I9} (hl : ∀ x ∈ l, Sm x) {v : Int} (hv : v < fr) (x : Lo4) (p : Bool) : localL (l.map (mvI fr by')) v x p = localL l v x p := by
  unfold localL
  rw [begins_mv, begins_mv, show touchL (l.map (mvI fr by')) = (touchL l).map (mvT fr by') from touch_mv hf hb 0 l hl, List.find?_map]
  have hp : (isDecl (l.map (mvI fr by')) v x.fr) ∘ mvT fr by' = isDecl l v x.fr := by
    funext t
    show isDecl (l.map (mvI fr by')) v x.fr (mvT fr by' t) = isDecl l v x.fr t
    unfold isDecl
    rw [stepAt_mv]
    show (decide (mv fr by' t.v = v) && t.made && _) = _
    rw [decide_eq_decide.2 (mv_is hb hv)]
    rfl
  rw [hp]
  cases (touchL l).find? (isDecl l v x.fr) <;> rfl
theorem locals_mv (hf : 0 ≤ fr) (hb : 0 ≤ by') {l : List I9} (hl : ∀ x ∈ l, Sm x) (params : Int) : ∀ (i : Nat) (xs : List Lo4), ((i + xs.length : Nat) : Int) ≤ fr → localsL (l.map (mvI fr by')) params i xs = (localsL l params i xs).map (mvS fr by')
  | i, [], _ => rfl
  | i, x :: r, h => by
    simp only [List.length_cons] at h
    rw [localsL, localsL, List.map_cons, locals_mv hf hb hl params (i + 1) r (by omega), local_mv hf hb hl (by omega)]
    congr 1
    unfold mvS
    rw [localL_v, mv_low (by omega)]
    cases hL : localL l (i : Int) x (decide ((i : Int) < params))
    have := localL_v l (i : Int) x (decide ((i : Int) < params))
    rw [hL] at this
    simp only at this
    rw [this]
def mvK (fr by' : Int) (k : Kn) : Kn := k.map (fun p => (mv fr by' p.1, p.2))
theorem getA_mv (hb : 0 ≤ by') : ∀ (k : Kn) (n : Int), getA (mvK fr by' k) (mv fr by' n) = getA k n
  | [], n => rfl
  | (m, s) :: r, n => by
    show (if mv fr by' m = mv fr by' n then some s else getA (mvK fr by' r) (mv fr by' n)) = if m = n then some s else getA r n
    by_cases h : m = n
    · rw [if_pos h, if_pos (by rw [h])]
    · rw [if_neg h, if_neg (fun e => h (mv_inj hb e)), getA_mv hb r n]
theorem putA_mv (hb : 0 ≤ by') : ∀ (k : Kn) (n : Int) (s : Sn4), putA (mvK fr by' k) (mv fr by' n) s = mvK fr by' (putA k n s)
  | [], n, s => rfl
  | (m, u) :: r, n, s => by
    show (if mv fr by' m = mv fr by' n then (mv fr by' n, s) :: mvK fr by' r else (mv fr by' m, u) :: putA (mvK fr by' r) (mv fr by' n) s) = mvK fr by' (if m = n then (n, s) :: r else (m, u) :: putA r n s)
    by_cases h : m = n
    · rw [if_pos h, if_pos (by rw [h])]
      rfl
    · rw [if_neg h, if_neg (fun e => h (mv_inj hb e)), putA_mv hb r n s]
      rfl
theorem know_mv (hb : 0 ≤ by') {N : Nat} (hN : (N : Int) = fr) : ∀ (ts : List T3) (k : Kn), (ts.map (mvT fr by')).foldl (knowStep N) (mvK fr by' k) = mvK fr by' (ts.foldl (knowStep N) k)
  | [], k => rfl
  | t :: r, k => by
    have h1 : knowStep N (mvK fr by' k) (mvT fr by' t) = mvK fr by' (knowStep N k t) := by
      unfold knowStep
      have hiff : (mvT fr by' t).v < (N : Int) ↔ t.v < (N : Int) := by rw [hN]; exact mv_low_iff hb
      by_cases h : t.v < (N : Int)
      · rw [if_pos h, if_pos (hiff.2 h)]
      · rw [if_neg h, if_neg (fun e => h (hiff.1 e))]
        have hA : atS (mvK fr by' k) (mvT fr by' t).v = atS k t.v := by
          unfold atS
          rw [show (mvT fr by' t).v = mv fr by' t.v from rfl, getA_mv hb]
        rw [hA]
        exact putA_mv hb k t.v _
    show (r.map (mvT fr by')).foldl (knowStep N) (knowStep N (mvK fr by' k) (mvT fr by' t)) = mvK fr by' (r.foldl (knowStep N) (knowStep N k t))
    rw [h1]
    exact know_mv hb hN r _
theorem keys_mv (hb : 0 ≤ by') {k : Kn} (hn : (k.map (·.1)).Nodup) : keysL (mvK fr by' k) = (keysL k).map (mv fr by') := by
  have h1 : ((mvK fr by' k).map (·.1)).Perm ((keysL k).map (mv fr by')) := by
    have : (mvK fr by' k).map (·.1) = (k.map (·.1)).map (mv fr by') := by unfold mvK; rw [List.map_map, List.map_map]; rfl
    rw [this]
    exact ((List.mergeSort_perm _ _).symm.map _)
  have h2 : ((keysL k).map (mv fr by')).Pairwise (fun a b => decide (a ≤ b) = true) :=
    List.pairwise_map.2 ((keys_ord hn).imp (fun {a b} h => by have := mv_lt (fr := fr) hb h; simp only [decide_eq_true_eq]; omega))
  show ((mvK fr by' k).map (·.1)).mergeSort leI = _
  rw [mergeSort_of_perm_i h1]
  exact List.mergeSort_of_pairwise h2
/-- **With other numbers, in the same order, each value has the same span.** -/
theorem spans_mv (hb : 0 ≤ by') {l : List I9} (hl : ∀ x ∈ l, Sm x) (xs : List Lo4) : spansL (l.map (mvI (xs.length : Int) by')) xs 2 = (spansL l xs 2).map (mvS (xs.length : Int) by') := by
  have hf : (0 : Int) ≤ (xs.length : Int) := by omega
  unfold spansL
  rw [List.map_append, locals_mv hf hb hl 2 0 xs (by omega)]
  congr 1
  have hk : knownL xs.length (l.map (mvI (xs.length : Int) by')) = mvK (xs.length : Int) by' (knownL xs.length l) := by
    unfold knownL
    rw [show touchL (l.map (mvI (xs.length : Int) by')) = (touchL l).map (mvT (xs.length : Int) by') from touch_mv hf hb 0 l hl]
    exact know_mv hb rfl (touchL l) []
  rw [hk]
  unfold tempsL
  rw [keys_mv hb (show ((knownL xs.length l).map (·.1)).Nodup from know_nodup _ _ _ (by simp)), List.map_map, List.map_map]
  refine List.map_congr_left fun v hv => ?_
  show spanS (atS (mvK _ by' _) (mv _ by' v)) (mv _ by' v) = mvS _ by' (spanS (atS _ v) v)
  have hA : atS (mvK (xs.length : Int) by' (knownL xs.length l)) (mv (xs.length : Int) by' v) = atS (knownL xs.length l) v := by
    unfold atS
    rw [getA_mv hb]
  rw [hA]
  rfl
end
end Go.Proofs.Ytfmkfmcplffhdaa

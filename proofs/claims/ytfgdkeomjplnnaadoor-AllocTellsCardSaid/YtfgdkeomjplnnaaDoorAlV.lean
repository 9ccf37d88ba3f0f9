/- Allocating, plainly: who has which register; and that a heap and a set of bits do just that. No condition. -/
import Derived.Test.YtfgdkeomjplnnaaDoorAlU
namespace Go.Proofs.YtfgdkeomjplnnaaDoor
set_option linter.unusedVariables false
def mkH (sp : List Sp) (i : Nat) : Hd := ⟨i, ((sp[i]?).map enS).getD 0⟩
structure St where
  holds : List (Option Nat)
  hs : List Hm
  sl : Nat
def relH (sp : List Sp) (at' : Int) (holds : List (Option Nat)) : List (Option Nat) := holds.map (fun o => o.bind (fun i => if gone at' (mkH sp i) then none else some i))
def longer (sp : List Sp) (b h : Nat) : Nat := if lo (mkH sp h) (mkH sp b) then h else b
def longest (sp : List Sp) (holds : List (Option Nat)) (i : Nat) : Nat := (holds.filterMap id).foldl (longer sp) i
def hmNat (hs : List Hm) (i : Nat) : Nat := hmN hs i
def giveF (sp : List Sp) (st : St) (h1 : List (Option Nat)) (i : Nat) : St :=
  match h1.findIdx? (·.isNone) with
  | some r => ⟨h1.set r (some i), st.hs.set i ⟨false, (r : Int)⟩, st.sl⟩
  | none =>
    if longest sp h1 i = i then ⟨h1, st.hs.set i ⟨true, (st.sl : Int)⟩, st.sl + 1⟩
    else ⟨h1.set (hmN st.hs (longest sp h1 i)) (some i), (st.hs.set (longest sp h1 i) ⟨true, (st.sl : Int)⟩).set i ⟨false, ((hmN st.hs (longest sp h1 i) : Nat) : Int)⟩, st.sl + 1⟩
def stepF (sp : List Sp) (st : St) (i : Nat) : St := giveF sp st (relH sp (frS sp i) st.holds) i
def st0 (n : Nat) : St := ⟨List.replicate 6 none, List.replicate n ⟨false, 0⟩, 0⟩
def allocF (sp : List Sp) (order : List Nat) : St := order.foldl (stepF sp) (st0 sp.length)
def heldL (sp : List Sp) (holds : List (Option Nat)) : List Hd := (holds.filterMap id).map (mkH sp)
/-- The heap and the bits hold what the model does. -/
structure InvS (sp : List Sp) (done : List Nat) (st : St) (es : List Hd) (fr : Nat) : Prop where
  len : st.holds.length = 6
  hlen : st.hs.length = sp.length
  f64 : fr < 64
  bits : ∀ r, r < 6 → (fr.testBit r = true ↔ st.holds[r]? = some none)
  perm : es.Perm (heldL sp st.holds)
  home : ∀ (r i : Nat), st.holds[r]? = some (some i) → st.hs[i]? = some ⟨false, (r : Int)⟩
  past : ∀ (r i : Nat), st.holds[r]? = some (some i) → i ∈ done
  sl : st.sl ≤ done.length
theorem heldL_mem {sp : List Sp} {holds : List (Option Nat)} {x : Hd} (h : x ∈ heldL sp holds) : ∃ (r i : Nat), holds[r]? = some (some i) ∧ x = mkH sp i := by
  unfold heldL at h
  obtain ⟨i, hi, rfl⟩ := List.mem_map.1 h
  obtain ⟨o, ho, hoi⟩ := List.mem_filterMap.1 hi
  obtain ⟨r, hr⟩ := List.getElem?_of_mem ho
  exact ⟨r, i, by rw [hr]; simpa using hoi, rfl⟩
theorem heldL_of {sp : List Sp} {holds : List (Option Nat)} {r i : Nat} (h : holds[r]? = some (some i)) : mkH sp i ∈ heldL sp holds :=
  List.mem_map.2 ⟨i, List.mem_filterMap.2 ⟨some i, List.mem_of_getElem? h, rfl⟩, rfl⟩
theorem InvS.reg {sp : List Sp} {done : List Nat} {st : St} {es : List Hd} {fr : Nat} (h : InvS sp done st es fr) : ∀ x ∈ es, HasReg st.hs x := fun x hx => by
  obtain ⟨r, i, hr, rfl⟩ := heldL_mem (h.perm.mem_iff.1 hx)
  have := h.home r i hr
  have hr6 : r < 6 := by have := (List.getElem?_eq_some_iff.1 hr).1; have := h.len; omega
  exact ⟨r, hr6, this⟩
theorem filterMap_len (holds : List (Option Nat)) : (holds.filterMap id).length ≤ holds.length := List.length_filterMap_le _ _
theorem InvS.six {sp : List Sp} {done : List Nat} {st : St} {es : List Hd} {fr : Nat} (h : InvS sp done st es fr) : es.length ≤ 6 := by
  rw [h.perm.length_eq]
  unfold heldL
  rw [List.length_map]
  have := filterMap_len st.holds
  have := h.len
  omega
/-! What is released. -/
theorem relH_get {sp : List Sp} {at' : Int} {holds : List (Option Nat)} (r : Nat) : (relH sp at' holds)[r]? = (holds[r]?).map (fun o => o.bind (fun i => if gone at' (mkH sp i) then none else some i)) := by
  unfold relH
  rw [List.getElem?_map]
theorem relH_held (sp : List Sp) (at' : Int) : ∀ holds : List (Option Nat), heldL sp (relH sp at' holds) = keptL at' (heldL sp holds)
  | [] => rfl
  | none :: r => by
    have ih := relH_held sp at' r
    unfold heldL relH keptL at *
    simpa using ih
  | some i :: r => by
    have ih := relH_held sp at' r
    unfold heldL relH keptL at *
    simp only [List.map_cons, Option.bind_some]
    cases hg : gone at' (mkH sp i)
    · simp only [Bool.false_eq_true, if_false, List.filterMap_cons, id, List.map_cons, List.filter_cons, hg, Bool.not_false, if_true]
      rw [ih]
    · simp only [if_true, List.filterMap_cons, id, List.map_cons, List.filter_cons, hg, Bool.not_true, Bool.false_eq_true, if_false]
      exact ih
theorem pow_bit {r j : Nat} : (2 ^ r).testBit j = decide (r = j) := Nat.testBit_two_pow
theorem relL_bit {at' : Int} {hs : List Hm} : ∀ (es : List Hd) (fr r : Nat), (relL at' hs fr es).testBit r = (fr.testBit r || es.any (fun x => gone at' x && decide (hmN hs x.i = r)))
  | [], fr, r => by simp [relL]
  | x :: es, fr, r => by
    show (relL at' hs (relF at' hs fr x) es).testBit r = _
    rw [relL_bit es, List.any_cons]
    unfold relF
    cases hg : gone at' x
    · simp
    · simp [Nat.testBit_or, pow_bit, Bool.or_assoc]
/-- Behind the releasing. -/
theorem InvS.released {sp : List Sp} {done : List Nat} {st : St} {es es1 : List Hd} {fr : Nat} (h : InvS sp done st es fr) (at' : Int) (hp : es1.Perm (keptL at' es)) : InvS sp done { st with holds := relH sp at' st.holds } es1 (relL at' st.hs fr es) := by
  have hget := fun r => relH_get (sp := sp) (at' := at') (holds := st.holds) r
  have hsome : ∀ r i, (relH sp at' st.holds)[r]? = some (some i) → st.holds[r]? = some (some i) := fun r i hr => by
    rw [hget] at hr
    cases ho : st.holds[r]? with
    | none => rw [ho] at hr; cases hr
    | some o =>
      rw [ho] at hr
      cases o with
      | none => simp at hr
      | some j =>
        simp only [Option.map_some, Option.bind_some, Option.some.injEq] at hr
        split at hr
        · cases hr
        · simpa using hr
  refine ⟨by show (relH sp at' st.holds).length = 6; unfold relH; rw [List.length_map]; exact h.len, h.hlen, relL_lt es h.reg h.f64, fun r hr => ?_, ?_, fun r i hri => h.home r i (hsome r i hri), fun r i hri => h.past r i (hsome r i hri), h.sl⟩
  · show _ ↔ (relH sp at' st.holds)[r]? = some none
    rw [relL_bit, Bool.or_eq_true, h.bits r hr, hget]
    have hlt : r < st.holds.length := by rw [h.len]; exact hr
    constructor
    · rintro (h1 | h1)
      · rw [h1]; rfl
      · obtain ⟨x, hx, hx2⟩ := List.any_eq_true.1 h1
        rw [Bool.and_eq_true, decide_eq_true_eq] at hx2
        obtain ⟨r', i, hr', rfl⟩ := heldL_mem (h.perm.mem_iff.1 hx)
        have h3 := h.home r' i hr'
        have h4 : hmN st.hs (mkH sp i).i = r' := by unfold hmN; rw [show (mkH sp i).i = i from rfl, h3]; simp
        rw [h4] at hx2
        rw [hx2.2] at hr'
        rw [hr']
        simp [hx2.1]
    · intro h1
      have h2 : st.holds[r]? = some st.holds[r] := List.getElem?_eq_getElem hlt
      cases ho : st.holds[r] with
      | none => left; rw [h2, ho]
      | some i =>
        right
        rw [ho] at h2
        rw [h2] at h1
        simp only [Option.map_some, Option.bind_some, Option.some.injEq] at h1
        split at h1
        · rename_i hg
          refine List.any_eq_true.2 ⟨mkH sp i, h.perm.mem_iff.2 (heldL_of h2), ?_⟩
          rw [hg, Bool.true_and, decide_eq_true_eq]
          unfold hmN
          rw [show (mkH sp i).i = i from rfl, h.home r i h2]
          simp
        · cases h1
  · show es1.Perm (heldL sp (relH sp at' st.holds))
    rw [relH_held]
    exact hp.trans (h.perm.filter _)
end Go.Proofs.YtfgdkeomjplnnaaDoor

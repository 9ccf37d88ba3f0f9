/- Giving a span a home, plainly. No condition. -/
import Derived.Test.YtfgdkeomjplnnaaDoorAlV
namespace Go.Proofs.YtfgdkeomjplnnaaDoor
set_option linter.unusedVariables false
theorem ctz_bit : ∀ fr : Fin 64, (fr : Nat) ≠ 0 → (fr : Nat).testBit (Lib.ctz 64 fr) = true ∧ ∀ j : Fin 6, (j : Nat) < Lib.ctz 64 fr → (fr : Nat).testBit j = false := by decide +kernel
theorem clr_bit : ∀ (fr : Fin 64) (r : Fin 6), clr fr r < 64 ∧ ∀ j : Fin 6, (clr fr r).testBit j = ((fr : Nat).testBit j && decide (j ≠ r)) := by decide +kernel
theorem pow_ctz : ∀ N : Fin 6, Lib.ctz 64 (2 ^ (N : Nat)) = N ∧ clr (2 ^ (N : Nat)) N = 0 := by decide +kernel
theorem held_set (sp : List Sp) (i : Nat) : ∀ (holds : List (Option Nat)) (r : Nat), holds[r]? = some none → (heldL sp (holds.set r (some i))).Perm (heldL sp holds ++ [mkH sp i])
  | [], r, h => by simp at h
  | o :: t, 0, h => by
    have : o = none := by simpa using h
    subst this
    show (mkH sp i :: heldL sp t).Perm (heldL sp t ++ [mkH sp i])
    exact (List.perm_append_singleton _ _).symm
  | none :: t, r + 1, h => held_set sp i t r (by simpa using h)
  | some j :: t, r + 1, h => by
    show (mkH sp j :: heldL sp (t.set r (some i))).Perm (mkH sp j :: (heldL sp t ++ [mkH sp i]))
    exact (held_set sp i t r (by simpa using h)).cons _
theorem held_clear (sp : List Sp) (L : Nat) : ∀ (holds : List (Option Nat)) (r : Nat), holds[r]? = some (some L) → (mkH sp L :: heldL sp (holds.set r none)).Perm (heldL sp holds)
  | [], r, h => by simp at h
  | o :: t, 0, h => by
    have : o = some L := by simpa using h
    subst this
    exact List.Perm.refl _
  | none :: t, r + 1, h => held_clear sp L t r (by simpa using h)
  | some j :: t, r + 1, h => by
    show (mkH sp L :: mkH sp j :: heldL sp (t.set r none)).Perm (mkH sp j :: heldL sp t)
    exact (List.Perm.swap _ _ _).trans ((held_clear sp L t r (by simpa using h)).cons _)
theorem lo_anti {x y : Hd} (h1 : lo x y = false) (h2 : lo y x = false) : x = y := by
  obtain ⟨xi, xe⟩ := x
  obtain ⟨yi, ye⟩ := y
  unfold lo at *
  simp only [decide_eq_false_iff_not] at *
  have e1 : xe = ye := by omega
  have e2 : xi = yi := by omega
  rw [e1, e2]
theorem fold_top (sp : List Sp) : ∀ (ls : List Nat) (b : Nat), (ls.foldl (longer sp) b = b ∨ ls.foldl (longer sp) b ∈ ls) ∧ lo (mkH sp b) (mkH sp (ls.foldl (longer sp) b)) = false ∧ ∀ h ∈ ls, lo (mkH sp h) (mkH sp (ls.foldl (longer sp) b)) = false
  | [], b => ⟨.inl rfl, lo_self _, fun h hh => by cases hh⟩
  | x :: r, b => by
    rw [List.foldl_cons]
    obtain ⟨h1, h2, h3⟩ := fold_top sp r (longer sp b x)
    have hb : lo (mkH sp b) (mkH sp (longer sp b x)) = false := by
      unfold longer
      split
      · exact lo_asym ‹_›
      · exact lo_self _
    have hx : lo (mkH sp x) (mkH sp (longer sp b x)) = false := by
      unfold longer
      split
      · exact lo_self _
      · rename_i hq
        exact Bool.eq_false_iff.2 hq
    have hm : longer sp b x = b ∨ longer sp b x = x := by
      unfold longer
      split
      · exact .inr rfl
      · exact .inl rfl
    refine ⟨?_, lo_trans hb h2, fun h hh => ?_⟩
    · rcases h1 with h1 | h1
      · rw [h1]
        rcases hm with hm | hm
        · exact .inl hm
        · rw [hm]; exact .inr (by simp)
      · exact .inr (List.mem_cons_of_mem _ h1)
    · rcases List.mem_cons.1 hh with rfl | hh
      · exact lo_trans hx h2
      · exact h3 h hh
theorem mem_holds {holds : List (Option Nat)} {j : Nat} : j ∈ holds.filterMap id ↔ ∃ r : Nat, holds[r]? = some (some j) := by
  constructor
  · intro h
    obtain ⟨o, ho, hoj⟩ := List.mem_filterMap.1 h
    obtain ⟨r, hr⟩ := List.getElem?_of_mem ho
    exact ⟨r, by rw [hr]; simpa using hoj⟩
  · rintro ⟨r, hr⟩
    exact List.mem_filterMap.2 ⟨some j, List.mem_of_getElem? hr, rfl⟩
section
variable {sp : List Sp} {done : List Nat} {st : St} {es es' : List Hd} {fr i : Nat}
theorem get_set {holds : List (Option Nat)} {r k : Nat} {o x : Option Nat} (h : (holds.set r o)[k]? = some x) : (k = r ∧ x = o) ∨ (k ≠ r ∧ holds[k]? = some x) := by
  rw [List.getElem?_set] at h
  by_cases hk : r = k
  · rw [if_pos hk] at h
    split at h
    · left; exact ⟨hk.symm, by simpa using h.symm⟩
    · cases h
  · rw [if_neg hk] at h
    exact .inr ⟨fun e => hk e.symm, h⟩
theorem InvS.free (h : InvS sp done st es fr) (hf : fr ≠ 0) (hid : i ∉ done) (hi : i < sp.length) (hp : es'.Perm (es ++ [mkH sp i])) :
    InvS sp (done ++ [i]) (giveF sp st st.holds i) es' (clr fr (Lib.ctz 64 fr)) ∧ (giveF sp st st.holds i).hs = st.hs.set i ⟨false, ((Lib.ctz 64 fr : Nat) : Int)⟩ ∧ (giveF sp st st.holds i).sl = st.sl := by
  have hr6 := ctz_lt ⟨fr, h.f64⟩ hf
  obtain ⟨hb1, hb2⟩ := ctz_bit ⟨fr, h.f64⟩ hf
  simp only at hr6 hb1 hb2
  have hfree := (h.bits _ hr6).1 hb1
  obtain ⟨hl, hfree2⟩ := List.getElem?_eq_some_iff.1 hfree
  have hfind : st.holds.findIdx? (·.isNone) = some (Lib.ctz 64 fr) := by
    refine List.findIdx?_eq_some_iff_getElem.2 ⟨hl, by rw [hfree2]; rfl, fun j hj => ?_⟩
    have hj6 : j < 6 := by omega
    have hjb := hb2 ⟨j, hj6⟩ hj
    simp only at hjb
    intro hn
    have : st.holds[j]? = some none := by
      rw [List.getElem?_eq_getElem (by have := h.len; omega)]
      cases ho : st.holds[j]'(by have := h.len; omega) with
      | none => rfl
      | some x => rw [ho] at hn; cases hn
    rw [(h.bits j hj6).2 this] at hjb
    cases hjb
  have hg : giveF sp st st.holds i = ⟨st.holds.set (Lib.ctz 64 fr) (some i), st.hs.set i ⟨false, ((Lib.ctz 64 fr : Nat) : Int)⟩, st.sl⟩ := by
    unfold giveF
    rw [hfind]
  rw [hg]
  obtain ⟨c1, c2⟩ := clr_bit ⟨fr, h.f64⟩ ⟨Lib.ctz 64 fr, hr6⟩
  refine ⟨⟨by simp [h.len], by simp [h.hlen], c1, fun r hr => ?_, hp.trans ((h.perm.append_right _).trans (held_set sp i st.holds _ hfree).symm), fun r j hrj => ?_, fun r j hrj => ?_, ?_⟩, rfl, rfl⟩
  · have c3 := c2 ⟨r, hr⟩
    simp only at c3
    rw [c3, Bool.and_eq_true, h.bits r hr]
    simp only [decide_eq_true_eq, ne_eq, Fin.mk.injEq]
    constructor
    · rintro ⟨k1, k2⟩
      rw [List.getElem?_set_ne (fun e => k2 e.symm)]
      exact k1
    · intro k1
      rcases get_set k1 with ⟨_, k2⟩ | ⟨k2, k3⟩
      · cases k2
      · exact ⟨k3, k2⟩
  · rcases get_set hrj with ⟨rfl, k2⟩ | ⟨k2, k3⟩
    · have : j = i := by simpa using k2
      subst this
      rw [List.getElem?_set]
      simp [h.hlen, hi]
    · have hji : j ≠ i := fun e => hid (by rw [← e]; exact h.past r j k3)
      show (st.hs.set i _)[j]? = _
      rw [List.getElem?_set_ne (Ne.symm hji)]
      exact h.home r j k3
  · rcases get_set hrj with ⟨rfl, k2⟩ | ⟨k2, k3⟩
    · have : j = i := by simpa using k2
      subst this
      simp
    · exact List.mem_append_left _ (h.past r j k3)
  · have := h.sl
    simp
    omega
theorem InvS.full (h : InvS sp done st es 0) : (∀ r, r < 6 → ∃ j, st.holds[r]? = some (some j)) ∧ st.holds.findIdx? (·.isNone) = none := by
  have key : ∀ r, r < 6 → ∃ j, st.holds[r]? = some (some j) := fun r hr => by
    have hl : r < st.holds.length := by rw [h.len]; exact hr
    cases ho : st.holds[r] with
    | none =>
      have := (h.bits r hr).2 (by rw [List.getElem?_eq_getElem hl, ho])
      simp at this
    | some j => exact ⟨j, by rw [List.getElem?_eq_getElem hl, ho]⟩
  refine ⟨key, List.findIdx?_eq_none_iff.2 fun o ho => ?_⟩
  obtain ⟨r, hr⟩ := List.getElem?_of_mem ho
  obtain ⟨j, hj⟩ := key r (by have := (List.getElem?_eq_some_iff.1 hr).1; have := h.len; omega)
  rw [hr] at hj
  cases hj
  rfl
/-- The head of the heap is the one that ends last. -/
theorem InvS.head {l : Hd} {rest : List Hd} (h : InvS sp done st (l :: rest) fr) (hh : HeapFrom (l :: rest) 0 (l :: rest).length) : (∃ r : Nat, st.holds[r]? = some (some l.i)) ∧ mkH sp l.i = l ∧ ∀ (r j : Nat), st.holds[r]? = some (some j) → lo (mkH sp j) l = false := by
  obtain ⟨r, i, hr, he⟩ := heldL_mem (h.perm.mem_iff.1 (List.mem_cons_self (a := l) (l := rest)))
  have hli : l.i = i := by rw [he]; rfl
  refine ⟨⟨r, by rw [hli]; exact hr⟩, by rw [hli, ← he], fun r' j hj => ?_⟩
  have hm := h.perm.mem_iff.2 (heldL_of (sp := sp) hj)
  obtain ⟨k, hk⟩ := List.getElem?_of_mem hm
  have := heap_root hh k (List.getElem?_eq_some_iff.1 hk).1
  rw [gd_of hk] at this
  exact this
theorem InvS.slot {l : Hd} {rest : List Hd} (h : InvS sp done st (l :: rest) 0) (hh : HeapFrom (l :: rest) 0 (l :: rest).length) (hid : i ∉ done) (hi : i < sp.length) (hlo : lo (mkH sp i) l = true) (hp : es'.Perm (l :: rest)) :
    InvS sp (done ++ [i]) (giveF sp st st.holds i) es' 0 ∧ (giveF sp st st.holds i).hs = st.hs.set i ⟨true, (st.sl : Int)⟩ ∧ (giveF sp st st.holds i).sl = st.sl + 1 := by
  obtain ⟨hfull, hfind⟩ := h.full
  obtain ⟨⟨r0, hr0⟩, hl, hmax⟩ := h.head hh
  have hL : longest sp st.holds i = i := by
    obtain ⟨t1, t2, t3⟩ := fold_top sp (st.holds.filterMap id) i
    rcases t1 with t1 | t1
    · exact t1
    · exfalso
      obtain ⟨r, hr⟩ := mem_holds.1 t1
      have k1 := hmax r _ hr
      have k2 := lo_trans t2 k1
      rw [hlo] at k2
      cases k2
  have hg : giveF sp st st.holds i = ⟨st.holds, st.hs.set i ⟨true, (st.sl : Int)⟩, st.sl + 1⟩ := by
    unfold giveF
    rw [hfind]
    simp only [hL, if_true]
  rw [hg]
  refine ⟨⟨h.len, by simp [h.hlen], h.f64, h.bits, hp.trans h.perm, fun r j hrj => ?_, fun r j hrj => List.mem_append_left _ (h.past r j hrj), by have := h.sl; simp; omega⟩, rfl, rfl⟩
  have hji : j ≠ i := fun e => hid (by rw [← e]; exact h.past r j hrj)
  show (st.hs.set i _)[j]? = _
  rw [List.getElem?_set_ne (Ne.symm hji)]
  exact h.home r j hrj
theorem InvS.swap {l : Hd} {rest : List Hd} {N : Nat} (h : InvS sp done st (l :: rest) 0) (hh : HeapFrom (l :: rest) 0 (l :: rest).length) (hid : i ∉ done) (hi : i < sp.length) (hlo : lo (mkH sp i) l = false) (hN : N < 6) (hlN : st.hs[l.i]? = some ⟨false, (N : Int)⟩) (hp : es'.Perm (rest ++ [mkH sp i])) :
    InvS sp (done ++ [i]) (giveF sp st st.holds i) es' (clr (2 ^ N) (Lib.ctz 64 (2 ^ N))) ∧ (giveF sp st st.holds i).hs = (st.hs.set l.i ⟨true, (st.sl : Int)⟩).set i ⟨false, ((Lib.ctz 64 (2 ^ N) : Nat) : Int)⟩ ∧ (giveF sp st st.holds i).sl = st.sl + 1 := by
  obtain ⟨hfull, hfind⟩ := h.full
  obtain ⟨⟨r0, hr0⟩, hl, hmax⟩ := h.head hh
  have hlid : l.i ∈ done := h.past r0 _ hr0
  have hne : l.i ≠ i := fun e => hid (by rw [← e]; exact hlid)
  obtain ⟨pc1, pc2⟩ := pow_ctz ⟨N, hN⟩
  simp only at pc1 pc2
  have hrN : r0 = N := by
    have := h.home r0 _ hr0
    rw [hlN] at this
    simp only [Option.some.injEq, Hm.mk.injEq, true_and] at this
    omega
  subst hrN
  have hL : longest sp st.holds i = l.i := by
    obtain ⟨t1, t2, t3⟩ := fold_top sp (st.holds.filterMap id) i
    have k3 := t3 l.i (mem_holds.2 ⟨r0, hr0⟩)
    rw [hl] at k3
    have hmx : lo (mkH sp (longest sp st.holds i)) l = false := by
      rcases t1 with t1 | t1
      · unfold longest; rw [t1]; exact hlo
      · obtain ⟨r, hr⟩ := mem_holds.1 t1
        exact hmax r _ hr
    have := congrArg Hd.i (lo_anti k3 hmx)
    exact this.symm
  have hLi : ¬ longest sp st.holds i = i := by rw [hL]; exact hne
  have hNN : hmN st.hs (longest sp st.holds i) = r0 := by rw [hL]; unfold hmN; rw [hlN]; simp
  have hg : giveF sp st st.holds i = ⟨st.holds.set r0 (some i), (st.hs.set l.i ⟨true, (st.sl : Int)⟩).set i ⟨false, (r0 : Int)⟩, st.sl + 1⟩ := by
    unfold giveF
    rw [hfind]
    simp only
    rw [if_neg hLi, hNN, hL]
  rw [hg, pc1, pc2]
  have hcl := held_clear sp l.i st.holds r0 hr0
  rw [hl] at hcl
  have hrest : rest.Perm (heldL sp (st.holds.set r0 none)) := (List.perm_cons l).1 (h.perm.trans hcl.symm)
  have hset := held_set sp i (st.holds.set r0 none) r0 (by rw [List.getElem?_set]; simp [(List.getElem?_eq_some_iff.1 hr0).1])
  rw [List.set_set] at hset
  refine ⟨⟨by simp [h.len], by simp [h.hlen], by decide, fun r hr => ?_, hp.trans ((hrest.append_right _).trans hset.symm), fun r j hrj => ?_, fun r j hrj => ?_, ?_⟩, rfl, rfl⟩
  · constructor
    · intro hb
      simp at hb
    · intro k1
      rcases get_set k1 with ⟨_, k2⟩ | ⟨k2, k3⟩
      · cases k2
      · obtain ⟨j, hj⟩ := hfull r hr
        rw [hj] at k3
        cases k3
  · rcases get_set hrj with ⟨rfl, k2⟩ | ⟨k2, k3⟩
    · have : j = i := by simpa using k2
      subst this
      rw [List.getElem?_set]
      simp [h.hlen, hi]
    · have hji : j ≠ i := fun e => hid (by rw [← e]; exact h.past r j k3)
      have hjl : j ≠ l.i := fun e => by
        have h1 := h.home r j k3
        rw [e, hlN] at h1
        simp only [Option.some.injEq, Hm.mk.injEq, true_and] at h1
        omega
      show ((st.hs.set l.i _).set i _)[j]? = _
      rw [List.getElem?_set_ne (Ne.symm hji), List.getElem?_set_ne (Ne.symm hjl)]
      exact h.home r j k3
  · rcases get_set hrj with ⟨rfl, k2⟩ | ⟨k2, k3⟩
    · have : j = i := by simpa using k2
      subst this
      simp
    · exact List.mem_append_left _ (h.past r j k3)
  · have := h.sl
    simp
    omega
theorem InvS.start (sp : List Sp) : InvS sp [] (st0 sp.length) [] 63 :=
  ⟨rfl, by simp [st0], by decide, fun r hr => by
    match r, hr with
    | 0, _ => exact ⟨fun _ => rfl, fun _ => by decide⟩
    | 1, _ => exact ⟨fun _ => rfl, fun _ => by decide⟩
    | 2, _ => exact ⟨fun _ => rfl, fun _ => by decide⟩
    | 3, _ => exact ⟨fun _ => rfl, fun _ => by decide⟩
    | 4, _ => exact ⟨fun _ => rfl, fun _ => by decide⟩
    | 5, _ => exact ⟨fun _ => rfl, fun _ => by decide⟩, by exact List.Perm.refl _, fun r i h => by
    unfold st0 at h
    rw [List.getElem?_replicate] at h
    split at h <;> simp at h, fun r i h => by
    unfold st0 at h
    rw [List.getElem?_replicate] at h
    split at h <;> simp at h, Nat.le_refl _⟩
end
end Go.Proofs.YtfgdkeomjplnnaaDoor

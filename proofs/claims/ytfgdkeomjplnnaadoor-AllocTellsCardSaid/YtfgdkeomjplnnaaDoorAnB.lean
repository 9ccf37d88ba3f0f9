/- Allocating keeps spans that meet apart; slots and registers are as many as are wanted. No condition. -/
import Derived.Test.YtfgdkeomjplnnaaDoorAnA
namespace Go.Proofs.YtfgdkeomjplnnaaDoor
set_option linter.unusedVariables false
def ApartAt (sp : List Sp) (i j : Nat) : Prop := enI sp i ≤ frS sp j ∨ enI sp j ≤ frS sp i
/-- What holds at a step, at a place. -/
structure ApInv (sp : List Sp) (done : List Nat) (at' : Int) (st : St) : Prop where
  len : st.holds.length = 6
  hlen : st.hs.length = sp.length
  home : ∀ (r i : Nat), st.holds[r]? = some (some i) → st.hs[i]? = some ⟨false, (r : Int)⟩
  past : ∀ (r i : Nat), st.holds[r]? = some (some i) → i ∈ done
  old : ∀ (i : Nat) (z : Int), i ∈ done → st.hs[i]? = some ⟨false, z⟩ → ∃ r : Nat, z = (r : Int) ∧ r < 6 ∧ r + 1 ≤ mostF sp ∧ (st.holds[r]? = some (some i) ∨ enI sp i ≤ at')
  apart : ∀ (i j : Nat) (z : Int), i ∈ done → j ∈ done → i ≠ j → st.hs[i]? = some ⟨false, z⟩ → st.hs[j]? = some ⟨false, z⟩ → ApartAt sp i j
  slot : ∀ (i : Nat) (z : Int), st.hs[i]? = some ⟨true, z⟩ → i ∈ done ∧ ∃ n : Nat, z = (n : Int) ∧ n < st.sl
  uniq : ∀ (i j : Nat) (z : Int), st.hs[i]? = some ⟨true, z⟩ → st.hs[j]? = some ⟨true, z⟩ → i = j
  all : ∀ n : Nat, n < st.sl → ∃ i : Nat, st.hs[i]? = some ⟨true, (n : Int)⟩
  over : 0 < st.sl → 7 ≤ mostF sp ∧ ∃ j, j ∈ done ∧ st.hs[j]? = some ⟨false, 5⟩
section
variable {sp : List Sp} {done : List Nat} {st : St} {i : Nat} {at' at2 : Int}
theorem ApInv.rel (h : ApInv sp done at' st) (hle : at' ≤ at2) : ApInv sp done at2 { st with holds := relH sp at2 st.holds } ∧ ∀ (r j : Nat), (relH sp at2 st.holds)[r]? = some (some j) → at2 < enI sp j := by
  have hget := fun r => relH_get (sp := sp) (at' := at2) (holds := st.holds) r
  have hsome : ∀ r i, (relH sp at2 st.holds)[r]? = some (some i) → st.holds[r]? = some (some i) ∧ at2 < enI sp i := fun r i hr => by
    rw [hget] at hr
    cases ho : st.holds[r]? with
    | none => rw [ho] at hr; cases hr
    | some o =>
      rw [ho] at hr
      cases o with
      | none => simp at hr
      | some j =>
        simp only [Option.map_some, Option.bind_some, Option.some.injEq] at hr
        split at hr
        · cases hr
        · rename_i hg
          have hji : j = i := by simpa using hr
          subst hji
          unfold gone at hg
          simp only [decide_eq_true_eq] at hg
          exact ⟨rfl, by unfold enI; omega⟩
  have hback : ∀ r i, st.holds[r]? = some (some i) → (relH sp at2 st.holds)[r]? = some (some i) ∨ enI sp i ≤ at2 := fun r i hr => by
    rw [hget, hr]
    simp only [Option.map_some, Option.bind_some]
    by_cases hg : gone at2 (mkH sp i) = true
    · right
      unfold gone at hg
      unfold enI
      simpa using hg
    · left
      rw [if_neg hg]
  refine ⟨⟨by show (relH sp at2 st.holds).length = 6; unfold relH; rw [List.length_map]; exact h.len, h.hlen, fun r i hr => h.home r i (hsome r i hr).1, fun r i hr => h.past r i (hsome r i hr).1, fun i z hi hz => ?_, h.apart, h.slot, h.uniq, h.all, h.over⟩, fun r j hr => (hsome r j hr).2⟩
  obtain ⟨r, e, h6, hm, hor⟩ := h.old i z hi hz
  refine ⟨r, e, h6, hm, ?_⟩
  rcases hor with hor | hor
  · exact hback r i hor
  · right; omega
theorem live_len (h : ApInv sp done at' st) (hi : i < sp.length) (hid : i ∉ done) (hlive : ∀ (r j : Nat), st.holds[r]? = some (some j) → frS sp i < enI sp j) (hdn : ∀ j ∈ done, j < sp.length ∧ frS sp j ≤ frS sp i) (n : Nat) (hn : n ≤ 6)
    (hall : ∀ r, r < n → ∃ j, st.holds[r]? = some (some j)) : n + 1 ≤ mostF sp := by
  have hinj : ∀ (r r' j : Nat), (st.holds.take n)[r]? = some (some j) → (st.holds.take n)[r']? = some (some j) → r = r' := fun r r' j h1 h2 => by
    rw [List.getElem?_take] at h1 h2
    split at h1 <;> split at h2 <;> first | cases h1; done | cases h2; done | skip
    have e1 := h.home r j h1
    rw [h.home r' j h2] at e1
    simp only [Option.some.injEq, Hm.mk.injEq, true_and] at e1
    omega
  have hlen := h.len
  have hJn := holds_nodup (st.holds.take n) hinj
  have hJl := holds_len (st.holds.take n) (fun x hx => by
    obtain ⟨r, hr⟩ := List.getElem?_of_mem hx
    rw [List.getElem?_take] at hr
    split at hr
    · rename_i hrn
      obtain ⟨j, hj⟩ := hall r hrn
      rw [hj] at hr
      cases hr
      rfl
    · cases hr)
  rw [List.length_take, hlen, Nat.min_eq_left hn] at hJl
  have hmem : ∀ j ∈ (st.holds.take n).filterMap id, ∃ r : Nat, st.holds[r]? = some (some j) := fun j hj => by
    obtain ⟨r, hr⟩ := mem_holds.1 hj
    rw [List.getElem?_take] at hr
    split at hr
    · exact ⟨r, hr⟩
    · cases hr
  have := cov_of (sp := sp) (t := frS sp i) (J := i :: (st.holds.take n).filterMap id) (List.nodup_cons.2 ⟨fun hm => by
    obtain ⟨r, hr⟩ := hmem i hm
    exact hid (h.past r i hr), hJn⟩) (fun j hj => by
    rcases List.mem_cons.1 hj with rfl | hj
    · exact ⟨hi, Int.le_refl _, fr_en hi⟩
    · obtain ⟨r, hr⟩ := hmem j hj
      have := hdn j (h.past r j hr)
      exact ⟨this.1, this.2, hlive r j hr⟩)
  rw [List.length_cons, hJl] at this
  exact Nat.le_trans this (cov_le_most sp _)
theorem app_cases {x y : Nat} {l : List Nat} (h : x ∈ l ++ [y]) : x = y ∨ x ∈ l := by
  rcases List.mem_append.1 h with h | h
  · exact .inr h
  · exact .inl (List.mem_singleton.1 h)
theorem ApInv.give (h : ApInv sp done (frS sp i) st) (hlive : ∀ (r j : Nat), st.holds[r]? = some (some j) → frS sp i < enI sp j) (hid : i ∉ done) (hi : i < sp.length) (hdn : ∀ j ∈ done, j < sp.length ∧ frS sp j ≤ frS sp i) :
    ApInv sp (done ++ [i]) (frS sp i) (giveF sp st st.holds i) := by
  have hne : ∀ j, j ∈ done → j ≠ i := fun j hj e => hid (by rw [← e]; exact hj)
  have hnei : ∀ j x, j ∈ done → (st.hs.set i x)[j]? = st.hs[j]? := fun j x hj => List.getElem?_set_ne (Ne.symm (hne j hj))
  have hself : ∀ (hs : List Hm) x, hs.length = sp.length → (hs.set i x)[i]? = some x := fun hs x hl => by
    rw [List.getElem?_set]
    simp [hl, hi]
  unfold giveF
  cases hf : st.holds.findIdx? (·.isNone) with
  | some r0 =>
    obtain ⟨hl, hx, hb⟩ := List.findIdx?_eq_some_iff_getElem.1 hf
    have hfree : st.holds[r0]? = some none := by
      rw [List.getElem?_eq_getElem hl]
      cases ho : st.holds[r0] with
      | none => rfl
      | some x => rw [ho] at hx; cases hx
    have hr6 : r0 < 6 := by have := h.len; omega
    have hmost : r0 + 1 ≤ mostF sp := live_len h hi hid hlive hdn r0 (by omega) (fun r hr => by
      have := hb r hr
      rw [List.getElem?_eq_getElem (by omega)]
      cases ho : st.holds[r]'(by omega) with
      | none => rw [ho] at this; exact absurd rfl this
      | some j => exact ⟨j, rfl⟩)
    simp only
    refine ⟨by simp [h.len], by simp [h.hlen], fun r j hrj => ?_, fun r j hrj => ?_, fun j z hj hz => ?_, fun a b z ha hb' hab hz1 hz2 => ?_, fun j z hz => ?_, fun a b z h1 h2 => ?_, fun n hn => ?_, fun hs => ?_⟩
    · rcases get_set hrj with ⟨rfl, k2⟩ | ⟨k2, k3⟩
      · obtain rfl : j = i := by simpa using k2
        exact hself _ _ h.hlen
      · show (st.hs.set i _)[j]? = _
        rw [hnei j _ (h.past r j k3)]
        exact h.home r j k3
    · rcases get_set hrj with ⟨rfl, k2⟩ | ⟨k2, k3⟩
      · obtain rfl : j = i := by simpa using k2
        simp
      · exact List.mem_append_left _ (h.past r j k3)
    · rcases app_cases hj with rfl | hj
      · rw [hself _ _ h.hlen] at hz
        obtain rfl : (r0 : Int) = z := by simpa using hz
        exact ⟨r0, rfl, hr6, hmost, .inl (by rw [List.getElem?_set]; simp [hl])⟩
      · rw [hnei j _ hj] at hz
        obtain ⟨r, e, h6, hm, hor⟩ := h.old j z hj hz
        refine ⟨r, e, h6, hm, ?_⟩
        rcases hor with hor | hor
        · left
          rw [List.getElem?_set_ne]
          · exact hor
          · intro e2
            rw [← e2, hfree] at hor
            cases hor
        · exact .inr hor
    · have key : ∀ j, j ∈ done → st.hs[j]? = some ⟨false, (r0 : Int)⟩ → enI sp j ≤ frS sp i := fun j hj hz => by
        obtain ⟨r, e, h6, hm, hor⟩ := h.old j _ hj hz
        rcases hor with hor | hor
        · obtain rfl : r0 = r := by omega
          rw [hfree] at hor
          cases hor
        · exact hor
      rcases app_cases ha with rfl | ha1
      · rcases app_cases hb' with rfl | hb1
        · exact absurd rfl hab
        · rw [hself _ _ h.hlen] at hz1
          obtain rfl : (r0 : Int) = z := by simpa using hz1
          rw [hnei b _ hb1] at hz2
          exact .inr (key b hb1 hz2)
      · rcases app_cases hb' with rfl | hb1
        · rw [hself _ _ h.hlen] at hz2
          obtain rfl : (r0 : Int) = z := by simpa using hz2
          rw [hnei a _ ha1] at hz1
          exact .inl (key a ha1 hz1)
        · rw [hnei a _ ha1] at hz1
          rw [hnei b _ hb1] at hz2
          exact h.apart a b z ha1 hb1 hab hz1 hz2
    · rcases set_slot hz with ⟨_, k2⟩ | k2
      · cases k2
      · obtain ⟨k3, k4⟩ := h.slot j z k2
        exact ⟨List.mem_append_left _ k3, k4⟩
    · rcases set_slot h1 with ⟨_, k2⟩ | k1
      · cases k2
      rcases set_slot h2 with ⟨_, k2⟩ | k2
      · cases k2
      exact h.uniq a b z k1 k2
    · obtain ⟨j, hj⟩ := h.all n hn
      exact ⟨j, by show (st.hs.set i _)[j]? = _; rw [hnei j _ (h.slot j _ hj).1]; exact hj⟩
    · obtain ⟨k1, j, k2, k3⟩ := h.over hs
      exact ⟨k1, j, List.mem_append_left _ k2, by show (st.hs.set i _)[j]? = _; rw [hnei j _ k2]; exact k3⟩
  | none =>
    have hall := List.findIdx?_eq_none_iff.1 hf
    have hfull : ∀ r, r < 6 → ∃ j, st.holds[r]? = some (some j) := fun r hr => by
      have hl : r < st.holds.length := by rw [h.len]; exact hr
      have := hall _ (List.getElem_mem hl)
      rw [List.getElem?_eq_getElem hl]
      cases ho : st.holds[r] with
      | none => rw [ho] at this; cases this
      | some j => exact ⟨j, rfl⟩
    have hmost : 7 ≤ mostF sp := live_len h hi hid hlive hdn 6 (by omega) hfull
    obtain ⟨j5, hj5⟩ := hfull 5 (by omega)
    have hs5 := h.home 5 j5 hj5
    have hp5 := h.past 5 j5 hj5
    obtain ⟨t1, t2, t3⟩ := fold_top sp (st.holds.filterMap id) i
    simp only
    by_cases hL : longest sp st.holds i = i
    · rw [if_pos hL]
      refine ⟨by simp [h.len], by simp [h.hlen], fun r j hrj => ?_, fun r j hrj => List.mem_append_left _ (h.past r j hrj), fun j z hj hz => ?_, fun a b z ha hb' hab hz1 hz2 => ?_, fun j z hz => ?_, fun a b z h1 h2 => ?_, fun n hn => ?_, fun hs => ⟨hmost, j5, List.mem_append_left _ hp5, ?_⟩⟩
      · show (st.hs.set i _)[j]? = _
        rw [hnei j _ (h.past r j hrj)]
        exact h.home r j hrj
      · rcases app_cases hj with rfl | hj
        · rw [hself _ _ h.hlen] at hz
          simp at hz
        · rw [hnei j _ hj] at hz
          exact h.old j z hj hz
      · rcases app_cases ha with rfl | ha
        · rw [hself _ _ h.hlen] at hz1
          simp at hz1
        · rcases app_cases hb' with rfl | hb'
          · rw [hself _ _ h.hlen] at hz2
            simp at hz2
          · rw [hnei a _ ha] at hz1
            rw [hnei b _ hb'] at hz2
            exact h.apart a b z ha hb' hab hz1 hz2
      · rcases set_slot hz with ⟨rfl, k2⟩ | k2
        · have : z = (st.sl : Int) := by simpa using k2
          exact ⟨by simp, st.sl, this, by show st.sl < st.sl + 1; omega⟩
        · obtain ⟨k3, n, k4, k5⟩ := h.slot j z k2
          exact ⟨List.mem_append_left _ k3, n, k4, by show n < st.sl + 1; omega⟩
      · rcases set_slot h1 with ⟨rfl, k1⟩ | k1
        · rcases set_slot h2 with ⟨rfl, k2⟩ | k2
          · rfl
          · obtain ⟨_, n, k4, k5⟩ := h.slot b z k2
            have : z = (st.sl : Int) := by simpa using k1
            omega
        · rcases set_slot h2 with ⟨rfl, k2⟩ | k2
          · obtain ⟨_, n, k4, k5⟩ := h.slot a z k1
            have : z = (st.sl : Int) := by simpa using k2
            omega
          · exact h.uniq a b z k1 k2
      · have hn' : n < st.sl + 1 := hn
        by_cases e : n = st.sl
        · exact ⟨i, by rw [e]; exact hself _ _ h.hlen⟩
        · obtain ⟨j, hj⟩ := h.all n (by omega)
          exact ⟨j, by show (st.hs.set i _)[j]? = _; rw [hnei j _ (h.slot j _ hj).1]; exact hj⟩
      · show (st.hs.set i _)[j5]? = _
        rw [hnei j5 _ hp5]
        exact hs5
    · rw [if_neg hL]
      have hm : longest sp st.holds i ∈ st.holds.filterMap id := by
        rcases t1 with t1 | t1
        · exact absurd t1 hL
        · exact t1
      clear t1 t2 t3
      generalize longest sp st.holds i = L at *
      obtain ⟨r0, hr0⟩ := mem_holds.1 hm
      have hh0 := h.home r0 L hr0
      have hLd := h.past r0 L hr0
      have hLl : L < st.hs.length := (List.getElem?_eq_some_iff.1 hh0).1
      have hr6 : r0 < 6 := by have := (List.getElem?_eq_some_iff.1 hr0).1; have := h.len; omega
      have hNN : hmN st.hs L = r0 := by unfold hmN; rw [hh0]; simp
      rw [hNN]
      have hLi : L ≠ i := hL
      have hset : ∀ j, j ∈ done → j ≠ L → ((st.hs.set L ⟨true, (st.sl : Int)⟩).set i ⟨false, (r0 : Int)⟩)[j]? = st.hs[j]? := fun j hj hjl => by
        rw [List.getElem?_set_ne (Ne.symm (hne j hj)), List.getElem?_set_ne (Ne.symm hjl)]
      have hsetL : ((st.hs.set L ⟨true, (st.sl : Int)⟩).set i ⟨false, (r0 : Int)⟩)[L]? = some ⟨true, (st.sl : Int)⟩ := by
        rw [List.getElem?_set_ne (Ne.symm hLi), List.getElem?_set]
        simp [hLl]
      have hseti : ((st.hs.set L ⟨true, (st.sl : Int)⟩).set i ⟨false, (r0 : Int)⟩)[i]? = some ⟨false, (r0 : Int)⟩ := hself _ _ (by simp [h.hlen])
      have hreg : ∀ j z, j ∈ done ++ [i] → ((st.hs.set L ⟨true, (st.sl : Int)⟩).set i ⟨false, (r0 : Int)⟩)[j]? = some ⟨false, z⟩ → (j = i ∧ z = (r0 : Int)) ∨ (j ∈ done ∧ j ≠ L ∧ st.hs[j]? = some ⟨false, z⟩) := fun j z hj hz => by
        rcases app_cases hj with rfl | hj
        · rw [hseti] at hz
          exact .inl ⟨rfl, by simpa using hz.symm⟩
        · by_cases hjl : j = L
          · rw [hjl, hsetL] at hz
            simp at hz
          · rw [hset j hj hjl] at hz
            exact .inr ⟨hj, hjl, hz⟩
      have hslt : ∀ j z, ((st.hs.set L ⟨true, (st.sl : Int)⟩).set i ⟨false, (r0 : Int)⟩)[j]? = some ⟨true, z⟩ → (j = L ∧ z = (st.sl : Int)) ∨ (j ∈ done ∧ j ≠ L ∧ st.hs[j]? = some ⟨true, z⟩) := fun j z hz => by
        rcases set_slot hz with ⟨_, k2⟩ | k2
        · cases k2
        rcases set_slot k2 with ⟨k3, k4⟩ | k3
        · exact .inl ⟨k3, by simpa using k4⟩
        · refine .inr ⟨(h.slot j z k3).1, fun e => ?_, k3⟩
          rw [e, hh0] at k3
          simp at k3
      have key : ∀ j, j ∈ done → j ≠ L → st.hs[j]? = some ⟨false, (r0 : Int)⟩ → enI sp j ≤ frS sp i := fun j hj hjl hz => by
        obtain ⟨r, e, h6, hm, hor⟩ := h.old j _ hj hz
        rcases hor with hor | hor
        · obtain rfl : r0 = r := by omega
          rw [hr0] at hor
          exact absurd (by simpa using hor) (Ne.symm hjl)
        · exact hor
      refine ⟨by simp [h.len], by simp [h.hlen], fun r j hrj => ?_, fun r j hrj => ?_, fun j z hj hz => ?_, fun a b z ha hb' hab hz1 hz2 => ?_, fun j z hz => ?_, fun a b z h1 h2 => ?_, fun n hn => ?_, fun hs => ⟨hmost, ?_⟩⟩
      · rcases get_set hrj with ⟨rfl, k2⟩ | ⟨k2, k3⟩
        · obtain rfl : j = i := by simpa using k2
          exact hseti
        · have hjl : j ≠ L := fun e => by
            have := h.home r j k3
            rw [e, hh0] at this
            simp only [Option.some.injEq, Hm.mk.injEq, true_and] at this
            omega
          show ((st.hs.set L _).set i _)[j]? = _
          rw [hset j (h.past r j k3) hjl]
          exact h.home r j k3
      · rcases get_set hrj with ⟨rfl, k2⟩ | ⟨k2, k3⟩
        · obtain rfl : j = i := by simpa using k2
          simp
        · exact List.mem_append_left _ (h.past r j k3)
      · rcases hreg j z hj hz with ⟨rfl, rfl⟩ | ⟨k1, k2, k3⟩
        · exact ⟨r0, rfl, hr6, by omega, .inl (by rw [List.getElem?_set]; simp [h.len, hr6])⟩
        · obtain ⟨r, e, h6, hm, hor⟩ := h.old j z k1 k3
          refine ⟨r, e, h6, hm, ?_⟩
          rcases hor with hor | hor
          · left
            rw [List.getElem?_set_ne]
            · exact hor
            · intro e2
              rw [← e2, hr0] at hor
              exact k2 (by simpa using hor.symm)
          · exact .inr hor
      · rcases hreg a z ha hz1 with ⟨rfl, rfl⟩ | ⟨k1, k2, k3⟩
        · rcases hreg b _ hb' hz2 with ⟨rfl, _⟩ | ⟨k1, k2, k3⟩
          · exact absurd rfl hab
          · exact .inr (key b k1 k2 k3)
        · rcases hreg b _ hb' hz2 with ⟨rfl, rfl⟩ | ⟨m1, m2, m3⟩
          · exact .inl (key a k1 k2 k3)
          · exact h.apart a b z k1 m1 hab k3 m3
      · rcases hslt j z hz with ⟨rfl, rfl⟩ | ⟨k1, k2, k3⟩
        · exact ⟨List.mem_append_left _ hLd, st.sl, rfl, by show st.sl < st.sl + 1; omega⟩
        · obtain ⟨k3, n, k4, k5⟩ := h.slot j z k3
          exact ⟨List.mem_append_left _ k3, n, k4, by show n < st.sl + 1; omega⟩
      · rcases hslt a z h1 with ⟨rfl, e1⟩ | ⟨k1, k2, k3⟩
        · rcases hslt b z h2 with ⟨rfl, _⟩ | ⟨m1, m2, m3⟩
          · rfl
          · obtain ⟨_, n, k4, k5⟩ := h.slot b z m3
            omega
        · rcases hslt b z h2 with ⟨rfl, e1⟩ | ⟨m1, m2, m3⟩
          · obtain ⟨_, n, k4, k5⟩ := h.slot a z k3
            omega
          · exact h.uniq a b z k3 m3
      · have hn' : n < st.sl + 1 := hn
        by_cases e : n = st.sl
        · exact ⟨L, by rw [e]; exact hsetL⟩
        · obtain ⟨j, hj⟩ := h.all n (by omega)
          have hjl : j ≠ L := fun e => by
            rw [e, hh0] at hj
            simp at hj
          exact ⟨j, by show ((st.hs.set L _).set i _)[j]? = _; rw [hset j (h.slot j _ hj).1 hjl]; exact hj⟩
      · by_cases e5 : r0 = 5
        · subst e5
          exact ⟨i, by simp, hseti⟩
        · have hjl : j5 ≠ L := fun e => by
            rw [e, hh0] at hs5
            simp only [Option.some.injEq, Hm.mk.injEq, true_and] at hs5
            omega
          exact ⟨j5, List.mem_append_left _ hp5, by show ((st.hs.set L _).set i _)[j5]? = _; rw [hset j5 hp5 hjl]; exact hs5⟩
theorem ApInv.step (h : ApInv sp done at' st) (hle : at' ≤ frS sp i) (hid : i ∉ done) (hi : i < sp.length) (hdn : ∀ j ∈ done, j < sp.length ∧ frS sp j ≤ frS sp i) : ApInv sp (done ++ [i]) (frS sp i) (stepF sp st i) := by
  obtain ⟨h1, h2⟩ := h.rel hle
  exact h1.give (st := { st with holds := relH sp (frS sp i) st.holds }) h2 hid hi hdn
end
theorem ApInv.start (sp : List Sp) (at' : Int) : ApInv sp [] at' (st0 sp.length) := by
  have hh : ∀ (r i : Nat), (st0 sp.length).holds[r]? = some (some i) → False := fun r i h => by
    unfold st0 at h
    rw [List.getElem?_replicate] at h
    split at h <;> simp at h
  have hz : ∀ (i : Nat) (z : Int), (st0 sp.length).hs[i]? = some ⟨true, z⟩ → False := fun i z h => by
    unfold st0 at h
    rw [List.getElem?_replicate] at h
    split at h <;> simp at h
  exact ⟨rfl, by simp [st0], fun r i h => (hh r i h).elim, fun r i h => (hh r i h).elim, (fun i z hi => by cases hi), (fun i j z hi => by cases hi), fun i z h => (hz i z h).elim, fun i j z h => (hz i z h).elim, (fun n hn => by unfold st0 at hn; exact absurd hn (by simp)), (fun hs => by unfold st0 at hs; exact absurd hs (by simp))⟩
theorem ap_to {sp : List Sp} {order : List Nat} (ho : Ordered sp order) : ∀ k, k ≤ order.length → ∃ at' : Int, (∀ q, k ≤ q → q < order.length → at' ≤ frS sp (gN order q)) ∧ ApInv sp (order.take k) at' (stTo sp order k)
  | 0, _ => by
    by_cases h0 : 0 < order.length
    · refine ⟨frS sp (gN order 0), fun q _ hq => ?_, ApInv.start sp _⟩
      by_cases e : q = 0
      · rw [e]; exact Int.le_refl _
      · have hlen := ho.len
        have := ho.srt 0 q (Nat.zero_le _) (by omega) (by omega)
        unfold RB at this
        omega
    · exact ⟨0, fun q _ hq => by omega, ApInv.start sp _⟩
  | k + 1, hk => by
    have hlt : k < order.length := by omega
    have hg : order[k]? = some (gN order k) := gN_some hlt
    obtain ⟨at', hat, ih⟩ := ap_to ho k (by omega)
    rw [take_snoc' hg, stTo_succ hg]
    have hlen := ho.len
    have hmem : ∀ j ∈ order, j < sp.length := fun j hj => List.mem_range.1 (ho.perm.mem_iff.1 hj)
    refine ⟨frS sp (gN order k), fun q hq hq2 => ?_, ih.step (hat k (Nat.le_refl _) hlt) (nodup_take (ho.perm.nodup_iff.2 List.nodup_range) hg) (hmem _ (gN_mem hlt)) fun j hj => ⟨hmem j (List.mem_of_mem_take hj), ?_⟩⟩
    · have := ho.srt k q (Nat.zero_le _) (by omega) (by omega)
      unfold RB at this
      omega
    · obtain ⟨p, hp⟩ := List.getElem?_of_mem hj
      rw [List.getElem?_take] at hp
      split at hp
      · rename_i hpk
        have := ho.srt p k (Nat.zero_le _) hpk (by omega)
        rw [gN_of hp] at this
        unfold RB at this
        omega
      · cases hp
theorem ap_end {sp : List Sp} {order : List Nat} (ho : Ordered sp order) : ∃ at', ApInv sp order at' (allocF sp order) := by
  obtain ⟨at', _, h⟩ := ap_to ho order.length (Nat.le_refl _)
  have e : stTo sp order order.length = allocF sp order := by
    unfold stTo allocF
    rw [List.take_of_length_le (Nat.le_refl _)]
  rw [e, List.take_of_length_le (Nat.le_refl _)] at h
  exact ⟨at', h⟩
theorem regsF_spec : ∀ (hs : List Hm) (m : Int), m ≤ hs.foldl (fun m h => if h.isSlot then m else max m (h.n + 1)) m ∧ (∀ h ∈ hs, h.isSlot = false → h.n + 1 ≤ hs.foldl (fun m h => if h.isSlot then m else max m (h.n + 1)) m) ∧
    (hs.foldl (fun m h => if h.isSlot then m else max m (h.n + 1)) m = m ∨ ∃ h ∈ hs, h.isSlot = false ∧ hs.foldl (fun m h => if h.isSlot then m else max m (h.n + 1)) m = h.n + 1)
  | [], m => ⟨Int.le_refl _, (fun h hh => by cases hh), .inl rfl⟩
  | x :: r, m => by
    obtain ⟨h1, h2, h3⟩ := regsF_spec r (if x.isSlot then m else max m (x.n + 1))
    rw [List.foldl_cons]
    cases hx : x.isSlot with
    | true =>
      simp only [hx, if_true] at h1 h2 h3 ⊢
      refine ⟨h1, fun h hh hh2 => ?_, ?_⟩
      · rcases List.mem_cons.1 hh with rfl | hh
        · rw [hx] at hh2; cases hh2
        · exact h2 h hh hh2
      · rcases h3 with h3 | ⟨h, k1, k2, k3⟩
        · exact .inl h3
        · exact .inr ⟨h, List.mem_cons_of_mem _ k1, k2, k3⟩
    | false =>
      simp only [hx, Bool.false_eq_true, if_false] at h1 h2 h3 ⊢
      refine ⟨by omega, fun h hh hh2 => ?_, ?_⟩
      · rcases List.mem_cons.1 hh with rfl | hh
        · omega
        · exact h2 h hh hh2
      · rcases h3 with h3 | ⟨h, k1, k2, k3⟩
        · by_cases hm : x.n + 1 ≤ m
          · left; rw [h3]; omega
          · right; exact ⟨x, by simp, hx, by rw [h3]; omega⟩
        · exact .inr ⟨h, List.mem_cons_of_mem _ k1, k2, k3⟩
/-- All that the theorem says of the homes. -/
structure ApartOk (sp : List Sp) (hs : List Hm) (regs : Int) (sl : Nat) : Prop where
  slots : 0 < sl ↔ 6 < mostF sp
  rg : regs = min (mostF sp : Int) 6
  isreg : ∀ (i : Nat) (z : Int), hs[i]? = some ⟨false, z⟩ → 0 ≤ z ∧ z < regs
  isslot : ∀ (i : Nat) (z : Int), hs[i]? = some ⟨true, z⟩ → 0 ≤ z ∧ z < sl
  uniq : ∀ (i j : Nat) (z : Int), hs[i]? = some ⟨true, z⟩ → hs[j]? = some ⟨true, z⟩ → i = j
  all : ∀ n : Nat, n < sl → ∃ i : Nat, hs[i]? = some ⟨true, (n : Int)⟩
  apart : ∀ i j : Nat, i < sp.length → j < sp.length → i ≠ j → hs[i]? = hs[j]? → ApartAt sp i j
theorem apart_law {sp : List Sp} {order : List Nat} (ho : Ordered sp order) : ApartOk sp (allocF sp order).hs (regsF (allocF sp order).hs) (allocF sp order).sl := by
  obtain ⟨at', h⟩ := ap_end ho
  generalize allocF sp order = st at *
  have hin : ∀ i, i < sp.length → i ∈ order := fun i hi => ho.perm.mem_iff.2 (List.mem_range.2 hi)
  have hlt : ∀ (i : Nat) (x : Hm), st.hs[i]? = some x → i < sp.length := fun i x hx => by rw [← h.hlen]; exact (List.getElem?_eq_some_iff.1 hx).1
  obtain ⟨r1, r2, r3⟩ := regsF_spec st.hs 0
  have hR : st.hs.foldl (fun m h => if h.isSlot then m else max m (h.n + 1)) 0 = regsF st.hs := rfl
  rw [hR] at r1 r2 r3
  have hreg : ∀ (i : Nat) (z : Int), st.hs[i]? = some ⟨false, z⟩ → 0 ≤ z ∧ z < regsF st.hs ∧ z < 6 ∧ z + 1 ≤ (mostF sp : Int) := fun i z hz => by
    obtain ⟨r, e, h6, hm, _⟩ := h.old i z (hin i (hlt i _ hz)) hz
    have := r2 _ (List.mem_of_getElem? hz) rfl
    simp only at this
    omega
  have hle : regsF st.hs ≤ min (mostF sp : Int) 6 := by
    rcases r3 with r3 | ⟨x, hx, hx2, hx3⟩
    · omega
    · obtain ⟨i, hi⟩ := List.getElem?_of_mem hx
      obtain ⟨xs, xn⟩ := x
      simp only at hx2 hx3
      rw [hx2] at hi
      have := hreg i xn hi
      omega
  have hap : ∀ i j : Nat, i < sp.length → j < sp.length → i ≠ j → st.hs[i]? = st.hs[j]? → ApartAt sp i j := fun i j hi hj hij he => by
    have hgi := List.getElem?_eq_getElem (show i < st.hs.length by rw [h.hlen]; exact hi)
    rw [hgi] at he
    generalize hx : st.hs[i]'(by rw [h.hlen]; exact hi) = x at hgi he
    obtain ⟨xs, xn⟩ := x
    cases xs with
    | true => exact absurd (h.uniq i j xn hgi he.symm) hij
    | false => exact h.apart i j xn (hin i hi) (hin j hj) hij hgi he.symm
  have hge : st.sl = 0 → (mostF sp : Int) ≤ regsF st.hs := fun h0 => by
    rcases most_is sp with hm | ⟨s, hs, hm⟩
    · omega
    · rw [hm, cov_range]
      generalize hJ : (List.range sp.length).filter (fun i => decide (frS sp i ≤ s.fr ∧ s.fr < enI sp i)) = J
      have hJm : ∀ j ∈ J, j < sp.length ∧ frS sp j ≤ s.fr ∧ s.fr < enI sp j := fun j hj => by
        rw [← hJ] at hj
        obtain ⟨h1, h2⟩ := List.mem_filter.1 hj
        exact ⟨List.mem_range.1 h1, by simpa using h2⟩
      have hJn : J.Nodup := by rw [← hJ]; exact List.nodup_range.filter _
      have hJr : ∀ j ∈ J, ∃ r : Nat, st.hs[j]? = some ⟨false, (r : Int)⟩ ∧ hmN st.hs j = r ∧ (r : Int) < regsF st.hs := fun j hj => by
        have hl := (hJm j hj).1
        have hg := List.getElem?_eq_getElem (show j < st.hs.length by rw [h.hlen]; exact hl)
        generalize st.hs[j]'(by rw [h.hlen]; exact hl) = x at hg
        obtain ⟨xs, xn⟩ := x
        cases xs with
        | true =>
          obtain ⟨_, n, _, hn⟩ := h.slot j xn hg
          omega
        | false =>
          have := hreg j xn hg
          refine ⟨xn.toNat, by rw [hg, show ((xn.toNat : Nat) : Int) = xn by omega], by unfold hmN; rw [hg]; rfl, by omega⟩
      have hmap : (J.map (hmN st.hs)).Nodup := by
        rw [List.nodup_iff_pairwise_ne, List.pairwise_map]
        refine (List.nodup_iff_pairwise_ne.1 hJn).imp_of_mem fun {a b} ha hb hab he => ?_
        obtain ⟨ra, a1, a2, _⟩ := hJr a ha
        obtain ⟨rb, b1, b2, _⟩ := hJr b hb
        rw [a2, b2] at he
        subst he
        have := hap a b (hJm a ha).1 (hJm b hb).1 hab (by rw [a1, b1])
        have h1 := hJm a ha
        have h2 := hJm b hb
        unfold ApartAt at this
        omega
      have hsub : (J.map (hmN st.hs)).length ≤ (List.range (regsF st.hs).toNat).length := List.Nodup.length_le_of_subset hmap (fun r hr => by
        obtain ⟨j, hj, rfl⟩ := List.mem_map.1 hr
        obtain ⟨r, _, e2, e3⟩ := hJr j hj
        rw [e2]
        exact List.mem_range.2 (by omega))
      rw [List.length_map, List.length_range] at hsub
      omega
  refine ⟨⟨fun hs => ?_, fun hm => ?_⟩, ?_, fun i z hz => ⟨(hreg i z hz).1, (hreg i z hz).2.1⟩, fun i z hz => ?_, h.uniq, h.all, hap⟩
  · have := (h.over hs).1
    omega
  · by_cases h0 : st.sl = 0
    · have := hge h0
      omega
    · omega
  · by_cases h0 : st.sl = 0
    · have := hge h0
      omega
    · obtain ⟨k1, j, k2, k3⟩ := h.over (by omega)
      have := r2 _ (List.mem_of_getElem? k3) rfl
      simp only at this
      omega
  · obtain ⟨_, n, e, hn⟩ := h.slot i z hz
    omega
end Go.Proofs.YtfgdkeomjplnnaaDoor

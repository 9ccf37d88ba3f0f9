/- A span gets a slot only where six others that end no later are in use. No condition. -/
import Derived.Test.YtfgdkeomjplnnaaDoorAmA
namespace Go.Proofs.YtfgdkeomjplnnaaDoor
set_option linter.unusedVariables false
def enI (sp : List Sp) (i : Nat) : Int := (mkH sp i).en
theorem enI_get {sp : List Sp} {i : Nat} {s : Sp} (h : sp[i]? = some s) : enI sp i = enS s ∧ frS sp i = s.fr := by
  obtain ⟨h1, h2⟩ := sp_get h
  exact ⟨by unfold enI; rw [h1], h2⟩
theorem fr_en {sp : List Sp} {i : Nat} (h : i < sp.length) : frS sp i < enI sp i := by
  obtain ⟨h1, h2⟩ := enI_get (List.getElem?_eq_getElem h)
  rw [h1, h2]
  unfold enS
  omega
def inUse (sp : List Sp) (i : Nat) (at' en : Int) (m : Nat) : Bool := decide (m ≠ i ∧ frS sp m ≤ at' ∧ at' < enI sp m ∧ enI sp m ≤ en)
def cntU (sp : List Sp) (i : Nat) (at' en : Int) (n : Nat) : Nat := ((List.range n).filter (inUse sp i at' en)).length
theorem cntU_succ (sp : List Sp) (i : Nat) (at' en : Int) (n : Nat) : cntU sp i at' en (n + 1) = cntU sp i at' en n + if inUse sp i at' en n = true then 1 else 0 := by
  unfold cntU
  rw [List.range_succ, List.filter_append, List.length_append]
  cases h : inUse sp i at' en n <;> simp [h]
theorem cntU_le (sp : List Sp) (i : Nat) (at' en : Int) (n : Nat) : cntU sp i at' en n ≤ n := by
  unfold cntU
  have := List.length_filter_le (inUse sp i at' en) (List.range n)
  simpa using this
def ShortOk (sp : List Sp) (i : Nat) : Prop := ∃ k, k < sp.length ∧ frS sp i ≤ frS sp k ∧ frS sp k < enI sp i ∧ 6 ≤ cntU sp i (frS sp k) (enI sp i) sp.length
theorem cntU_of {sp : List Sp} {i : Nat} {at' en : Int} {J : List Nat} (hn : J.Nodup) (h : ∀ j ∈ J, j < sp.length ∧ inUse sp i at' en j = true) : J.length ≤ cntU sp i at' en sp.length :=
  List.Nodup.length_le_of_subset hn (fun j hj => List.mem_filter.2 ⟨List.mem_range.2 (h j hj).1, (h j hj).2⟩)
theorem holds_nodup : ∀ (h : List (Option Nat)), (∀ (r r' j : Nat), h[r]? = some (some j) → h[r']? = some (some j) → r = r') → (h.filterMap id).Nodup
  | [], _ => by simp
  | none :: t, hi => by
    show (t.filterMap id).Nodup
    exact holds_nodup t (fun r r' j h1 h2 => by
      have := hi (r + 1) (r' + 1) j (by simpa using h1) (by simpa using h2)
      omega)
  | some i :: t, hi => by
    show (i :: t.filterMap id).Nodup
    refine List.nodup_cons.2 ⟨fun hm => ?_, holds_nodup t (fun r r' j h1 h2 => by
      have := hi (r + 1) (r' + 1) j (by simpa using h1) (by simpa using h2)
      omega)⟩
    obtain ⟨r, hr⟩ := mem_holds.1 hm
    have := hi 0 (r + 1) i rfl (by simpa using hr)
    omega
theorem holds_len : ∀ (h : List (Option Nat)), (∀ x ∈ h, x.isNone = false) → (h.filterMap id).length = h.length
  | [], _ => rfl
  | none :: t, hx => absurd (hx none (by simp)) (by simp)
  | some i :: t, hx => by
    show (t.filterMap id).length + 1 = t.length + 1
    rw [holds_len t (fun x hx' => hx x (List.mem_cons_of_mem _ hx'))]
/-- What holds at a step. -/
structure ShInv (sp : List Sp) (done : List Nat) (st : St) : Prop where
  len : st.holds.length = 6
  hlen : st.hs.length = sp.length
  home : ∀ (r i : Nat), st.holds[r]? = some (some i) → st.hs[i]? = some ⟨false, (r : Int)⟩
  past : ∀ (r i : Nat), st.holds[r]? = some (some i) → i ∈ done
  good : ∀ (i : Nat) (n : Int), st.hs[i]? = some ⟨true, n⟩ → ShortOk sp i
theorem set_slot {hs : List Hm} {i k : Nat} {x y : Hm} (h : (hs.set i x)[k]? = some y) : (k = i ∧ y = x) ∨ hs[k]? = some y := by
  rw [List.getElem?_set] at h
  by_cases hk : i = k
  · rw [if_pos hk] at h
    split at h
    · left; exact ⟨hk.symm, by simpa using h.symm⟩
    · cases h
  · rw [if_neg hk] at h
    exact .inr h
section
variable {sp : List Sp} {done : List Nat} {st : St} {i : Nat}
theorem ShInv.rel (h : ShInv sp done st) (at' : Int) : ShInv sp done { st with holds := relH sp at' st.holds } ∧ ∀ (r j : Nat), (relH sp at' st.holds)[r]? = some (some j) → at' < enI sp j := by
  have hget := fun r => relH_get (sp := sp) (at' := at') (holds := st.holds) r
  have hsome : ∀ r i, (relH sp at' st.holds)[r]? = some (some i) → st.holds[r]? = some (some i) ∧ at' < enI sp i := fun r i hr => by
    rw [hget] at hr
    cases ho : st.holds[r]? with
    | none => rw [ho] at hr; cases hr
    | some o =>
      rw [ho] at hr
      cases o with
      | none => simp at hr
      | some j =>
        simp only [Option.map_some, Option.bind_some, Option.some.injEq] at hr
        split at hr
        · cases hr
        · rename_i hg
          have hji : j = i := by simpa using hr
          subst hji
          unfold gone at hg
          simp only [decide_eq_true_eq] at hg
          exact ⟨rfl, by unfold enI; omega⟩
  exact ⟨⟨by show (relH sp at' st.holds).length = 6; unfold relH; rw [List.length_map]; exact h.len, h.hlen, fun r i hr => h.home r i (hsome r i hr).1, fun r i hr => h.past r i (hsome r i hr).1, h.good⟩, fun r j hr => (hsome r j hr).2⟩
theorem ShInv.give (h : ShInv sp done st) (hlive : ∀ (r j : Nat), st.holds[r]? = some (some j) → frS sp i < enI sp j) (hid : i ∉ done) (hi : i < sp.length) (hdn : ∀ j ∈ done, j < sp.length ∧ frS sp j ≤ frS sp i) :
    ShInv sp (done ++ [i]) (giveF sp st st.holds i) := by
  have hne : ∀ r j, st.holds[r]? = some (some j) → j ≠ i := fun r j hr e => hid (by rw [← e]; exact h.past r j hr)
  unfold giveF
  cases hf : st.holds.findIdx? (·.isNone) with
  | some r0 =>
    obtain ⟨hl, hx, _⟩ := List.findIdx?_eq_some_iff_getElem.1 hf
    simp only
    refine ⟨by simp [h.len], by simp [h.hlen], fun r j hrj => ?_, fun r j hrj => ?_, fun j n hj => ?_⟩
    · rcases get_set hrj with ⟨rfl, k2⟩ | ⟨k2, k3⟩
      · have : j = i := by simpa using k2
        subst this
        rw [List.getElem?_set]
        simp [h.hlen, hi]
      · show (st.hs.set i _)[j]? = _
        rw [List.getElem?_set_ne (Ne.symm (hne r j k3))]
        exact h.home r j k3
    · rcases get_set hrj with ⟨rfl, k2⟩ | ⟨k2, k3⟩
      · have : j = i := by simpa using k2
        subst this
        simp
      · exact List.mem_append_left _ (h.past r j k3)
    · rcases set_slot hj with ⟨_, k2⟩ | k2
      · cases k2
      · exact h.good j n k2
  | none =>
    have hall := List.findIdx?_eq_none_iff.1 hf
    have hinj : ∀ (r r' j : Nat), st.holds[r]? = some (some j) → st.holds[r']? = some (some j) → r = r' := fun r r' j h1 h2 => by
      have e1 := h.home r j h1
      rw [h.home r' j h2] at e1
      simp only [Option.some.injEq, Hm.mk.injEq, true_and] at e1
      omega
    have hJn := holds_nodup st.holds hinj
    have hJl := holds_len st.holds hall
    rw [h.len] at hJl
    have hJ : ∀ j ∈ st.holds.filterMap id, j < sp.length ∧ j ≠ i ∧ frS sp j ≤ frS sp i ∧ frS sp i < enI sp j := fun j hj => by
      obtain ⟨r, hr⟩ := mem_holds.1 hj
      have hd := hdn j (h.past r j hr)
      exact ⟨hd.1, hne r j hr, hd.2, hlive r j hr⟩
    obtain ⟨t1, t2, t3⟩ := fold_top sp (st.holds.filterMap id) i
    have hen : ∀ x y, lo (mkH sp x) (mkH sp y) = false → enI sp x ≤ enI sp y := fun x y hxy => by
      unfold lo at hxy
      simp only [decide_eq_false_iff_not] at hxy
      unfold enI
      omega
    simp only
    by_cases hL : longest sp st.holds i = i
    · rw [if_pos hL]
      unfold longest at hL
      rw [hL] at t3
      refine ⟨h.len, by simp [h.hlen], fun r j hrj => ?_, fun r j hrj => List.mem_append_left _ (h.past r j hrj), fun j n hj => ?_⟩
      · show (st.hs.set i _)[j]? = _
        rw [List.getElem?_set_ne (Ne.symm (hne r j hrj))]
        exact h.home r j hrj
      · rcases set_slot hj with ⟨rfl, _⟩ | k2
        · refine ⟨j, hi, by omega, fr_en hi, ?_⟩
          rw [← hJl]
          refine cntU_of hJn fun m hm => ?_
          obtain ⟨m1, m2, m3, m4⟩ := hJ m hm
          exact ⟨m1, decide_eq_true ⟨m2, m3, m4, hen m j (t3 m hm)⟩⟩
        · exact h.good j n k2
    · rw [if_neg hL]
      have hm : longest sp st.holds i ∈ st.holds.filterMap id := by
        rcases t1 with t1 | t1
        · exact absurd t1 hL
        · exact t1
      have t2' : lo (mkH sp i) (mkH sp (longest sp st.holds i)) = false := t2
      have t3' : ∀ m ∈ st.holds.filterMap id, lo (mkH sp m) (mkH sp (longest sp st.holds i)) = false := t3
      clear t1 t2 t3
      generalize longest sp st.holds i = L at *
      obtain ⟨r0, hr0⟩ := mem_holds.1 hm
      have hh0 := h.home r0 L hr0
      have hNN : hmN st.hs L = r0 := by unfold hmN; rw [hh0]; simp
      rw [hNN]
      obtain ⟨l1, l2, l3, l4⟩ := hJ L hm
      refine ⟨by simp [h.len], by simp [h.hlen], fun r j hrj => ?_, fun r j hrj => ?_, fun j n hj => ?_⟩
      · rcases get_set hrj with ⟨rfl, k2⟩ | ⟨k2, k3⟩
        · have : j = i := by simpa using k2
          subst this
          rw [List.getElem?_set]
          simp [h.hlen, hi]
        · have hjl : j ≠ L := fun e => by
            rw [e] at k3
            exact k2 (hinj _ _ _ k3 hr0)
          show ((st.hs.set L _).set i _)[j]? = _
          rw [List.getElem?_set_ne (Ne.symm (hne r j k3)), List.getElem?_set_ne (Ne.symm hjl)]
          exact h.home r j k3
      · rcases get_set hrj with ⟨rfl, k2⟩ | ⟨k2, k3⟩
        · have : j = i := by simpa using k2
          subst this
          simp
        · exact List.mem_append_left _ (h.past r j k3)
      · rcases set_slot hj with ⟨_, k2⟩ | k2
        · cases k2
        rcases set_slot k2 with ⟨rfl, _⟩ | k2
        · refine ⟨i, hi, l3, l4, ?_⟩
          have hlen6 : (i :: (st.holds.filterMap id).erase j).length = 6 := by
            rw [List.length_cons, List.length_erase_of_mem hm, hJl]
          rw [← hlen6]
          refine cntU_of (List.nodup_cons.2 ⟨fun hmi => ?_, hJn.erase j⟩) fun m hmm => ?_
          · exact (hJ i (List.mem_of_mem_erase hmi)).2.1 rfl
          · rcases List.mem_cons.1 hmm with rfl | hmm
            · exact ⟨hi, decide_eq_true ⟨fun e => l2 e.symm, Int.le_refl _, fr_en hi, hen _ _ t2'⟩⟩
            · obtain ⟨e1, e2⟩ := (List.Nodup.mem_erase_iff hJn).1 hmm
              obtain ⟨m1, m2, m3, m4⟩ := hJ m e2
              exact ⟨m1, decide_eq_true ⟨e1, m3, m4, hen _ _ (t3' m e2)⟩⟩
        · exact h.good j n k2
theorem ShInv.step (h : ShInv sp done st) (hid : i ∉ done) (hi : i < sp.length) (hdn : ∀ j ∈ done, j < sp.length ∧ frS sp j ≤ frS sp i) : ShInv sp (done ++ [i]) (stepF sp st i) := by
  obtain ⟨h1, h2⟩ := h.rel (frS sp i)
  exact h1.give (st := { st with holds := relH sp (frS sp i) st.holds }) h2 hid hi hdn
end
theorem ShInv.start (sp : List Sp) : ShInv sp [] (st0 sp.length) :=
  ⟨rfl, by simp [st0], fun r i h => by
    unfold st0 at h
    rw [List.getElem?_replicate] at h
    split at h <;> simp at h, fun r i h => by
    unfold st0 at h
    rw [List.getElem?_replicate] at h
    split at h <;> simp at h, fun i n h => by
    unfold st0 at h
    rw [List.getElem?_replicate] at h
    split at h <;> simp at h⟩
theorem sh_to {sp : List Sp} {order : List Nat} (ho : Ordered sp order) : ∀ k, k ≤ order.length → ShInv sp (order.take k) (stTo sp order k)
  | 0, _ => ShInv.start sp
  | k + 1, hk => by
    have hlt : k < order.length := by omega
    have hg : order[k]? = some (gN order k) := gN_some hlt
    have ih := sh_to ho k (by omega)
    rw [take_snoc' hg, stTo_succ hg]
    have hlen := ho.len
    have hmem : ∀ j ∈ order, j < sp.length := fun j hj => List.mem_range.1 (ho.perm.mem_iff.1 hj)
    refine ih.step (nodup_take (ho.perm.nodup_iff.2 List.nodup_range) hg) (hmem _ (gN_mem hlt)) fun j hj => ⟨hmem j (List.mem_of_mem_take hj), ?_⟩
    obtain ⟨p, hp⟩ := List.getElem?_of_mem hj
    rw [List.getElem?_take] at hp
    split at hp
    · rename_i hpk
      have := ho.srt p k (Nat.zero_le _) hpk (by omega)
      rw [gN_of hp] at this
      unfold RB at this
      omega
    · cases hp
theorem short_law {sp : List Sp} {order : List Nat} (ho : Ordered sp order) {i : Nat} {n : Int} (h : (allocF sp order).hs[i]? = some ⟨true, n⟩) : ShortOk sp i := by
  have := sh_to ho order.length (Nat.le_refl _)
  have e : stTo sp order order.length = allocF sp order := by
    unfold stTo allocF
    rw [List.take_of_length_le (Nat.le_refl _)]
  rw [e] at this
  exact this.good i n h
end Go.Proofs.YtfgdkeomjplnnaaDoor

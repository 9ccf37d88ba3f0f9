/- Spans that are moved and stretched get the same homes; one more that begins behind the others' ends changes no other. No condition. -/
import Derived.Test.YtfgdkeomjplnnaaDoorAmE
namespace Go.Proofs.YtfgdkeomjplnnaaDoor
set_option linter.unusedVariables false
/-- All comparisons of two lists of spans are alike. -/
structure Alike (sp tp : List Sp) : Prop where
  len : tp.length = sp.length
  fr : ∀ i j, i < sp.length → j < sp.length → (frS tp i < frS tp j ↔ frS sp i < frS sp j)
  gone : ∀ i j, i < sp.length → j < sp.length → (enI tp j ≤ frS tp i ↔ enI sp j ≤ frS sp i)
  en : ∀ i j, i < sp.length → j < sp.length → (enI tp i < enI tp j ↔ enI sp i < enI sp j)
section
variable {sp tp : List Sp} {order : List Nat}
theorem Alike.ordered (h : Alike sp tp) (ho : Ordered sp order) : Ordered tp order := by
  have hmem : ∀ j ∈ order, j < sp.length := fun j hj => List.mem_range.1 (ho.perm.mem_iff.1 hj)
  refine ordered_of (by rw [h.len]; exact ho.perm) ?_
  refine List.Pairwise.imp_of_mem (fun {a b} ha hb hab => ?_) ho.pw
  have e1 := h.fr a b (hmem a ha) (hmem b hb)
  have e2 := h.fr b a (hmem b hb) (hmem a ha)
  unfold RB at *
  omega
theorem Alike.low (h : Alike sp tp) {x y : Nat} (hx : x < sp.length) (hy : y < sp.length) : lo (mkH tp x) (mkH tp y) = lo (mkH sp x) (mkH sp y) := by
  have e1 := h.en x y hx hy
  have e2 := h.en y x hy hx
  unfold enI at e1 e2
  unfold lo
  rw [decide_eq_decide]
  have i1 : ∀ (l : List Sp) (z : Nat), (mkH l z).i = z := fun l z => rfl
  rw [i1, i1, i1, i1]
  omega
theorem longest_alike (h : Alike sp tp) : ∀ (ls : List Nat) (b : Nat), b < sp.length → (∀ x ∈ ls, x < sp.length) → ls.foldl (longer tp) b = ls.foldl (longer sp) b
  | [], b, _, _ => rfl
  | x :: r, b, hb, hl => by
    have hx := hl x (by simp)
    have e : longer tp b x = longer sp b x := by
      unfold longer
      rw [h.low hx hb]
    have hr : longer sp b x < sp.length := by
      unfold longer
      split
      · exact hx
      · exact hb
    rw [List.foldl_cons, List.foldl_cons, e]
    exact longest_alike h r _ hr (fun y hy => hl y (List.mem_cons_of_mem _ hy))
theorem giveF_alike (h : Alike sp tp) {st : St} {h1 : List (Option Nat)} {i : Nat} (hi : i < sp.length) (hh : ∀ x ∈ h1.filterMap id, x < sp.length) : giveF tp st h1 i = giveF sp st h1 i := by
  unfold giveF longest
  rw [longest_alike h _ i hi hh]
theorem relH_mem {at' : Int} {holds : List (Option Nat)} {x : Nat} (h : x ∈ (relH sp at' holds).filterMap id) : x ∈ holds.filterMap id := by
  obtain ⟨r, hr⟩ := mem_holds.1 h
  rw [relH_get] at hr
  refine mem_holds.2 ⟨r, ?_⟩
  cases ho : holds[r]? with
  | none => rw [ho] at hr; cases hr
  | some o =>
    rw [ho] at hr
    cases o with
    | none => simp at hr
    | some j =>
      simp only [Option.map_some, Option.bind_some, Option.some.injEq] at hr
      split at hr
      · cases hr
      · rw [hr]
theorem relH_alike (h : Alike sp tp) {holds : List (Option Nat)} {i : Nat} (hi : i < sp.length) (hh : ∀ x ∈ holds.filterMap id, x < sp.length) : relH tp (frS tp i) holds = relH sp (frS sp i) holds := by
  unfold relH
  refine List.map_congr_left fun o ho => ?_
  cases o with
  | none => rfl
  | some j =>
    have hj := hh j (List.mem_filterMap.2 ⟨some j, ho, rfl⟩)
    have e := h.gone i j hi hj
    unfold enI at e
    have e2 : Go.Proofs.YtfgdkeomjplnnaaDoor.gone (frS tp i) (mkH tp j) = Go.Proofs.YtfgdkeomjplnnaaDoor.gone (frS sp i) (mkH sp j) := by
      unfold Go.Proofs.YtfgdkeomjplnnaaDoor.gone
      rw [decide_eq_decide]
      exact e
    show (if _ then _ else _) = (if _ then _ else _)
    rw [e2]
theorem stepF_alike (h : Alike sp tp) {st : St} {i : Nat} (hi : i < sp.length) (hh : ∀ x ∈ st.holds.filterMap id, x < sp.length) : stepF tp st i = stepF sp st i := by
  unfold stepF
  rw [relH_alike h hi hh]
  exact giveF_alike h hi (fun x hx => hh x (relH_mem hx))
theorem holds_in (ho : Ordered sp order) {k : Nat} (hk : k ≤ order.length) : ∀ x ∈ (stTo sp order k).holds.filterMap id, x < sp.length := fun x hx => by
  obtain ⟨r, hr⟩ := mem_holds.1 hx
  exact List.mem_range.1 (ho.perm.mem_iff.1 (List.mem_of_mem_take ((sh_to ho k hk).past r x hr)))
theorem to_alike (h : Alike sp tp) (ho : Ordered sp order) : ∀ k, k ≤ order.length → stTo tp order k = stTo sp order k
  | 0, _ => by
    show st0 tp.length = st0 sp.length
    rw [h.len]
  | k + 1, hk => by
    have hlt : k < order.length := by omega
    have hg : order[k]? = some (gN order k) := gN_some hlt
    rw [stTo_succ hg, stTo_succ hg, to_alike h ho k (by omega)]
    exact stepF_alike h (List.mem_range.1 (ho.perm.mem_iff.1 (gN_mem hlt))) (holds_in ho (by omega))
theorem stTo_all (sp : List Sp) (order : List Nat) : stTo sp order order.length = allocF sp order := by
  unfold stTo allocF
  rw [List.take_of_length_le (Nat.le_refl _)]
theorem alloc_alike (h : Alike sp tp) (ho : Ordered sp order) : allocF tp order = allocF sp order := by
  rw [← stTo_all, ← stTo_all]
  exact to_alike h ho _ (Nat.le_refl _)
end
/-! One more. -/
def ext (st : St) : St := ⟨st.holds, st.hs ++ [⟨false, 0⟩], st.sl⟩
section
variable {sp : List Sp} {order : List Nat} {x : Sp}
theorem mkH_app {j : Nat} (hj : j < sp.length) : mkH (sp ++ [x]) j = mkH sp j ∧ frS (sp ++ [x]) j = frS sp j := by
  unfold mkH frS
  rw [List.getElem?_append_left hj]
  exact ⟨rfl, rfl⟩
theorem longest_app : ∀ (ls : List Nat) (b : Nat), b < sp.length → (∀ x ∈ ls, x < sp.length) → ls.foldl (longer (sp ++ [x])) b = ls.foldl (longer sp) b
  | [], b, _, _ => rfl
  | y :: r, b, hb, hl => by
    have hy := hl y (by simp)
    have e : longer (sp ++ [x]) b y = longer sp b y := by
      unfold longer
      rw [(mkH_app hy).1, (mkH_app hb).1]
    have hr : longer sp b y < sp.length := by
      unfold longer
      split
      · exact hy
      · exact hb
    rw [List.foldl_cons, List.foldl_cons, e]
    exact longest_app r _ hr (fun z hz => hl z (List.mem_cons_of_mem _ hz))
theorem longest_mem (ls : List Nat) (b : Nat) (hb : b < sp.length) (hl : ∀ x ∈ ls, x < sp.length) : ls.foldl (longer sp) b < sp.length := by
  rcases (fold_top sp ls b).1 with h | h
  · rw [h]; exact hb
  · exact hl _ h
theorem giveF_app {st : St} {h1 : List (Option Nat)} {i : Nat} (hs : st.hs.length = sp.length) (hi : i < sp.length) (hh : ∀ x ∈ h1.filterMap id, x < sp.length) : giveF (sp ++ [x]) (ext st) h1 i = ext (giveF sp st h1 i) := by
  have hL := longest_mem (h1.filterMap id) i hi hh
  have hset : ∀ (hs : List Hm) (k : Nat) (y : Hm), k < hs.length → (hs ++ [(⟨false, 0⟩ : Hm)]).set k y = hs.set k y ++ [⟨false, 0⟩] := fun hs k y hk => List.set_append_left _ _ hk
  unfold giveF longest
  rw [longest_app _ i hi hh]
  generalize (h1.filterMap id).foldl (longer sp) i = L at *
  cases h1.findIdx? (·.isNone) with
  | some r =>
    simp only [ext]
    rw [hset _ _ _ (by omega)]
  | none =>
    simp only [ext]
    have hn : hmN (st.hs ++ [⟨false, 0⟩]) L = hmN st.hs L := by
      unfold hmN
      rw [List.getElem?_append_left (by omega)]
    split
    · rw [hset _ _ _ (by omega)]
    · rw [hn, hset _ _ _ (by omega), hset _ _ _ (by rw [List.length_set]; omega)]
theorem stepF_app {st : St} {i : Nat} (hs : st.hs.length = sp.length) (hi : i < sp.length) (hh : ∀ x ∈ st.holds.filterMap id, x < sp.length) : stepF (sp ++ [x]) (ext st) i = ext (stepF sp st i) := by
  have e : relH (sp ++ [x]) (frS (sp ++ [x]) i) st.holds = relH sp (frS sp i) st.holds := by
    unfold relH
    rw [(mkH_app hi).2]
    refine List.map_congr_left fun o ho => ?_
    cases o with
    | none => rfl
    | some j =>
      have hj := hh j (List.mem_filterMap.2 ⟨some j, ho, rfl⟩)
      show (if _ then _ else _) = (if _ then _ else _)
      rw [(mkH_app hj).1]
  unfold stepF
  show giveF _ _ (relH _ _ st.holds) _ = _
  rw [e]
  exact giveF_app hs hi (fun y hy => hh y (relH_mem hy))
theorem to_app (ho : Ordered sp order) : ∀ k, k ≤ order.length → stTo (sp ++ [x]) (order ++ [sp.length]) k = ext (stTo sp order k)
  | 0, _ => by
    show st0 (sp ++ [x]).length = ext (st0 sp.length)
    have e : List.replicate (sp ++ [x]).length (⟨false, 0⟩ : Hm) = List.replicate sp.length ⟨false, 0⟩ ++ [⟨false, 0⟩] := by
      rw [List.length_append, List.length_singleton]
      exact List.replicate_succ'
    unfold st0 ext
    rw [e]
  | k + 1, hk => by
    have hlt : k < order.length := by omega
    have hg : order[k]? = some (gN order k) := gN_some hlt
    rw [stTo_succ hg, stTo_succ (show (order ++ [sp.length])[k]? = some (gN order k) by rw [List.getElem?_append_left hlt]; exact hg), to_app ho k (by omega)]
    exact stepF_app (sh_to ho k (by omega)).hlen (List.mem_range.1 (ho.perm.mem_iff.1 (gN_mem hlt))) (holds_in ho (by omega))
theorem app_ordered (ho : Ordered sp order) (hx : ∀ i, i < sp.length → frS sp i < x.fr) : Ordered (sp ++ [x]) (order ++ [sp.length]) := by
  have hmem : ∀ j ∈ order, j < sp.length := fun j hj => List.mem_range.1 (ho.perm.mem_iff.1 hj)
  have hlast : frS (sp ++ [x]) sp.length = x.fr := by
    unfold frS
    rw [List.getElem?_append_right (Nat.le_refl _), Nat.sub_self]
    rfl
  refine ordered_of ?_ ?_
  · rw [List.length_append, List.length_singleton, List.range_succ]
    exact ho.perm.append_right _
  · refine List.pairwise_append.2 ⟨List.Pairwise.imp_of_mem (fun {a b} ha hb hab => ?_) ho.pw, List.pairwise_singleton _ _, fun a ha b hb => ?_⟩
    · unfold RB at *
      rw [(mkH_app (hmem a ha)).2, (mkH_app (hmem b hb)).2]
      exact hab
    · obtain rfl : b = sp.length := by simpa using hb
      unfold RB
      rw [(mkH_app (hmem a ha)).2, hlast]
      exact .inl (hx a (hmem a ha))
theorem alloc_app (ho : Ordered sp order) (hx : ∀ i, i < sp.length → enI sp i ≤ x.fr) : (allocF (sp ++ [x]) (order ++ [sp.length])).hs = (allocF sp order).hs ++ [⟨false, 0⟩] ∧ (allocF (sp ++ [x]) (order ++ [sp.length])).sl = (allocF sp order).sl := by
  have hlast : frS (sp ++ [x]) sp.length = x.fr := by
    unfold frS
    rw [List.getElem?_append_right (Nat.le_refl _), Nat.sub_self]
    rfl
  have h1 : allocF (sp ++ [x]) (order ++ [sp.length]) = stepF (sp ++ [x]) (ext (allocF sp order)) sp.length := by
    have := to_app (x := x) ho order.length (Nat.le_refl _)
    rw [stTo_all] at this
    rw [← this]
    unfold allocF stTo
    rw [List.take_left' rfl, List.foldl_append]
    rfl
  have hI := sh_to ho order.length (Nat.le_refl _)
  have hin := holds_in ho (Nat.le_refl order.length)
  rw [stTo_all] at hI hin
  have h2 : relH (sp ++ [x]) (frS (sp ++ [x]) sp.length) (allocF sp order).holds = List.replicate 6 none := by
    refine List.eq_replicate_iff.2 ⟨by unfold relH; rw [List.length_map]; exact hI.len, fun o ho' => ?_⟩
    unfold relH at ho'
    obtain ⟨o2, ho2, rfl⟩ := List.mem_map.1 ho'
    cases o2 with
    | none => rfl
    | some j =>
      have hj := hin j (List.mem_filterMap.2 ⟨some j, ho2, rfl⟩)
      show (if _ then _ else _) = _
      rw [hlast, (mkH_app hj).1]
      have := hx j hj
      unfold enI at this
      rw [show gone x.fr (mkH sp j) = true from decide_eq_true this]
      rfl
  rw [h1]
  unfold stepF
  show (giveF _ _ (relH _ _ (allocF sp order).holds) _).hs = _ ∧ _
  have h3 : (ext (allocF sp order)).holds = (allocF sp order).holds := rfl
  rw [h3, h2]
  have hset : ((allocF sp order).hs ++ [(⟨false, 0⟩ : Hm)]).set sp.length ⟨false, ((0 : Nat) : Int)⟩ = (allocF sp order).hs ++ [⟨false, 0⟩] := by
    rw [List.set_append_right _ _ (by rw [hI.hlen]; exact Nat.le_refl _), hI.hlen, Nat.sub_self]
    rfl
  exact ⟨hset, rfl⟩
end
end Go.Proofs.YtfgdkeomjplnnaaDoor

/- The order of spans is one; homes compared. No condition. -/
import Derived.Test.YtfgdkeomjplnnaaDoorAlZ
import Derived.Laws.StructEq
namespace Go.Proofs.YtfgdkeomjplnnaaDoor
set_option linter.unusedVariables false
open Go.RowKit
attribute [local irreducible] Blk
theorem pair_unique {R : Nat → Nat → Prop} (hR : ∀ x y, R x y → R y x → False) : ∀ a b : List Nat, a.Perm b → a.Pairwise R → b.Pairwise R → a = b
  | [], b, h, _, _ => (List.nil_perm.1 h).symm
  | x :: a, [], h, _, _ => absurd h.length_eq (by simp)
  | x :: a, y :: b, h, h1, h2 => by
    have hxy : x = y := by
      have m1 : x ∈ y :: b := h.mem_iff.1 (by simp)
      have m2 : y ∈ x :: a := h.mem_iff.2 (by simp)
      rcases List.mem_cons.1 m1 with e | m1
      · exact e
      rcases List.mem_cons.1 m2 with e | m2
      · exact e.symm
      exact (hR _ _ ((List.pairwise_cons.1 h1).1 _ m2) ((List.pairwise_cons.1 h2).1 _ m1)).elim
    subst hxy
    rw [pair_unique hR a b ((List.perm_cons x).1 h) (List.pairwise_cons.1 h1).2 (List.pairwise_cons.1 h2).2]
instance RB.dec (sp : List Sp) (x y : Nat) : Decidable (RB sp x y) := by unfold RB; infer_instance
theorem RB.asym {sp : List Sp} {x y : Nat} (h1 : RB sp x y) (h2 : RB sp y x) : False := by unfold RB at *; omega
section
variable {sp : List Sp} {order o2 : List Nat}
theorem Ordered.len (h : Ordered sp order) : order.length = sp.length := by rw [h.perm.length_eq]; simp
theorem Ordered.pw (h : Ordered sp order) : order.Pairwise (RB sp) := by
  refine List.pairwise_iff_getElem.2 fun i j hi hj hij => ?_
  have := h.srt i j (Nat.zero_le _) hij (by rw [← h.len]; exact hj)
  rwa [gN_of (List.getElem?_eq_getElem hi), gN_of (List.getElem?_eq_getElem hj)] at this
theorem ordered_of (h1 : order.Perm (List.range sp.length)) (h2 : order.Pairwise (RB sp)) : Ordered sp order := ⟨h1, fun p q _ hpq hq => by
  have hl : order.length = sp.length := by rw [h1.length_eq]; simp
  have := List.pairwise_iff_getElem.1 h2 p q (by omega) (by omega) hpq
  rw [gN_of (List.getElem?_eq_getElem (show p < order.length by omega)), gN_of (List.getElem?_eq_getElem (show q < order.length by omega))]
  exact this⟩
theorem Ordered.unique (h : Ordered sp order) (h2 : Ordered sp o2) : order = o2 := pair_unique (fun _ _ => RB.asym) _ _ (h.perm.trans h2.perm.symm) h.pw h2.pw
end
/-- A slice of homes. -/
def RepH (w : World) (A : Option Addr) (l : List Hm) : Prop :=
  l ≠ [] → ∃ b o, A = some ⟨b, o, none⟩ ∧ b < w.heap.size ∧ ∀ k x, l[k]? = some x → w.cell? ⟨b, o + k * 2, none⟩ = some (.bool x.isSlot) ∧ w.cell? ⟨b, o + k * 2 + 1, none⟩ = some (.int .i64 x.n)
theorem RepH.far {w w' : World} {A : Option Addr} {l : List Hm} (h : RepH w A l) (hb : Below w.heap.size w w') : RepH w' A l := fun hne => by
  obtain ⟨b, o, hA, hl, hall⟩ := h hne
  exact ⟨b, o, hA, Nat.lt_of_lt_of_le hl hb.size, fun k x hx => ⟨(hb.cell (p := ⟨b, _, none⟩) hl).trans (hall k x hx).1, (hb.cell (p := ⟨b, _, none⟩) hl).trans (hall k x hx).2⟩⟩
theorem RepH.of_blk {w : World} {g : Nat} {l : List Hm} (h : Blk w g 30 (hmCells l).toArray) : RepH w (some ⟨g, 0, none⟩) l := fun hne =>
  ⟨g, 0, rfl, h.lt, fun k x hx => by
    obtain ⟨g1, g2⟩ := hmCells_get _ _ _ hx
    rw [Nat.zero_add]
    exact ⟨(h.cell (k * 2)).trans (by simpa using g1), (h.cell (k * 2 + 1)).trans (by simpa using g2)⟩⟩
theorem RepH.cut {w : World} {A : Option Addr} {l : List Hm} (h : RepH w A l) (n : Nat) : RepH w A (l.take n) := fun hne => by
  obtain ⟨b, o, hA, hl, hall⟩ := h (fun e => hne (by rw [e]; simp))
  exact ⟨b, o, hA, hl, fun k x hx => hall k x (by
    rw [List.getElem?_take] at hx
    split at hx
    · exact hx
    · cases hx)⟩
set_option maxRecDepth 100000 in
theorem reg_any (w : World) (n : Int) : Calls Tryd.prog 12 #[.int .i64 n] w fun e w' => e = .returned (.agg #[.bool false, .int .i64 n]) ∧ Below w.heap.size w w' := by
  go_enter Tryd.func12, Tryd.ntmps12
  go_wp2_with fail
  refine bodyPost_ret (v := .agg #[.bool false, .int .i64 n]) (by simp [results, Tryd.results12, go_sem]) rfl ⟨rfl, ?_⟩
  exact (Below.refl _ _).alloc (Nat.le_refl _) _
set_option maxRecDepth 100000 in
theorem slotHome_any (w : World) (n : Int) : Calls Tryd.prog 19 #[.int .i64 n] w fun e w' => e = .returned (.agg #[.bool true, .int .i64 n]) ∧ Below w.heap.size w w' := by
  go_enter Tryd.func19, Tryd.ntmps19
  go_wp2_with fail
  refine bodyPost_ret (v := .agg #[.bool true, .int .i64 n]) (by simp [results, Tryd.results19, go_sem]) rfl ⟨rfl, ?_⟩
  exact (Below.refl _ _).alloc (Nat.le_refl _) _
set_option maxRecDepth 100000 in
theorem run_home_neq (w : World) (xs ys : Bool) (xn yn : Int) : (binOp .neq 30 (.agg #[.bool xs, .int .i64 xn]) (.agg #[.bool ys, .int .i64 yn])).run Tryd.prog w = .ok (.bool (!(xs == ys && xn == yn))) w := by
  rw [run_neq_struct, run_equalIn_agg w 9999 30 _ _ (by kernel_rfl) (by kernel_rfl)]
  simp only [Program.fieldsOf, Tryd.underlying30]
  simp [Op.eqFields, go_sem]
  by_cases h1 : xs = ys <;> by_cases h2 : xn = yn <;> simp [h1, h2]
set_option maxRecDepth 100000 in
theorem run_home_eql (w : World) (xs ys : Bool) (xn yn : Int) : (binOp .eql 30 (.agg #[.bool xs, .int .i64 xn]) (.agg #[.bool ys, .int .i64 yn])).run Tryd.prog w = .ok (.bool (xs == ys && xn == yn)) w := by
  rw [run_eql_struct, run_equalIn_agg w 9999 30 _ _ (by kernel_rfl) (by kernel_rfl)]
  simp only [Program.fieldsOf, Tryd.underlying30]
  simp [Op.eqFields, go_sem]
  by_cases h1 : xs = ys <;> by_cases h2 : xn = yn <;> simp [h1, h2]
set_option maxRecDepth 100000 in
set_option maxHeartbeats 1600000 in
theorem Homes_any (w : World) (A A' : Option Addr) (a b : List Hm) (c c' : Nat) (h1 : RepH w A a) (h2 : RepH w A' b) (ha : a.length ≤ 1000000) (hb : b.length ≤ 1000000) :
    Calls Tryd.prog 11 #[.slice A a.length c, .slice A' b.length c'] w fun e w' => e = .returned (.bool (decide (a = b))) ∧ ∃ m, w' = w.drewN m := by
  have H1 := Lib.hid h1
  have H2 := Lib.hid h2
  clear h1 h2
  by_cases hl : a.length = b.length
  · go_enter Tryd.func11, Tryd.ntmps11
    rw [← hl]
    go_wp2_with fail
    go_loopw [5] (fun iv wr => ∃ (k : Nat), iv = .int .i64 (k : Int) ∧ k ≤ a.length ∧ Hid (a.take k = b.take k) ∧ Hid (∃ m, wr = w.drewN m)) (fun iv _ => a.length - (intOf iv).toNat)
    case atStart => exact ⟨0, rfl, Nat.zero_le _, Lib.hid rfl, Lib.hid ⟨0, rfl⟩⟩
    case round =>
      obtain ⟨k, rfl, hk, HE, HM⟩ := hrel
      obtain ⟨m, rfl⟩ := HM.out
      by_cases hlt : k < a.length
      · have k0 : (0 : Int) ≤ (k : Int) := by omega
        have k1 : (k : Int) < (a.length : Int) := by omega
        obtain ⟨x, hx⟩ : ∃ x, a[k]? = some x := ⟨_, List.getElem?_eq_getElem hlt⟩
        obtain ⟨y, hy⟩ : ∃ y, b[k]? = some y := ⟨_, List.getElem?_eq_getElem (by omega)⟩
        obtain ⟨b1, o1, rfl, _, q1⟩ := H1.out (fun e => by rw [e] at hx; simp at hx)
        obtain ⟨b2, o2, rfl, _, q2⟩ := H2.out (fun e => by rw [e] at hy; simp at hy)
        have c1 := (q1 k x hx).1
        have c2 := (q1 k x hx).2
        have c3 := (q2 k y hy).1
        have c4 := (q2 k y hy).2
        have HA := Lib.hid (show a.take (k + 1) = b.take (k + 1) ↔ x = y from by
          rw [take_snoc' hx, take_snoc' hy, HE.out, List.append_cancel_left_eq]
          simp)
        have HNE := Lib.hid (show x ≠ y → a ≠ b from fun hne e => by rw [e, hy] at hx; exact hne (Option.some.inj hx).symm)
        obtain ⟨xs, xn⟩ := x
        obtain ⟨ys, yn⟩ := y
        simp only at c1 c2 c3 c4
        clear q1 q2 hx hy HM
        have hne := fun w => run_home_neq w xs ys xn yn
        by_cases hxy : xs = ys ∧ xn = yn
        · have e1 : (xs == ys && xn == yn) = true := by rw [hxy.1, hxy.2]; simp
          rw [e1] at hne
          have HT := Lib.hid (HA.out.2 (by rw [hxy.1, hxy.2]))
          clear e1 hxy HA HNE
          go_wp2_with fail
          go_quiet (fail)
          go_wp2_with fail
          exact ⟨⟨k + 1, rfl, by omega, HT, Lib.hid ⟨_, rfl⟩⟩, by simp [intOf]; omega⟩
        · have e1 : (xs == ys && xn == yn) = false := by
            rw [Bool.and_eq_false_iff]
            by_cases h : xs = ys
            · exact .inr (by simpa using fun e => hxy ⟨h, e⟩)
            · exact .inl (by simpa using h)
          rw [e1] at hne
          have HT := Lib.hid (HNE.out (fun e => hxy (by cases e; exact ⟨rfl, rfl⟩)))
          clear e1 hxy HA HNE
          go_wp2_with fail
          go_quiet (fail)
          go_wp2_with fail
          go_ret
          rw [decide_eq_false HT.out]
          exact ⟨rfl, _, (World.drewN_drewN ..)⟩
      · have hke : k = a.length := by omega
        subst hke
        go_wp2_with fail
        go_ret
        refine ⟨?_, m, rfl⟩
        have := HE.out
        rw [List.take_of_length_le (Nat.le_refl _), List.take_of_length_le (by omega)] at this
        rw [this]
        simp
  · have hn : ¬ (a.length : Int) = (b.length : Int) := by omega
    go_enter Tryd.func11, Tryd.ntmps11
    go_wp2_with fail
    go_ret
    rw [decide_eq_false (fun e : a = b => hl (by rw [e]))]
    exact ⟨rfl, 0, rfl⟩
end Go.Proofs.YtfgdkeomjplnnaaDoor

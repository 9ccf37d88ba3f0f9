/- alloc.Most tells how many spans meet: the rows that are sorted, and what 'cmp' tells of edges. No condition. -/
import Derived.Test.YtfgdkeomjplnnaaDoorAnA
import Derived.Test.YtfgdkeomjplnnaaDoorLvQb
import Derived.Shelf.SlSortCmp.WholeK
namespace Go.Proofs.YtfgdkeomjplnnaaDoor
set_option linter.unusedVariables false
open Go.RowKit
open Go.Sort (grow HoldsK PermIn SortedIn SWO flatK putRowK)
attribute [local irreducible] Blk
theorem own_grow2 {w w' : World} {row : Option Nat} {base : Nat} {e : TypeId} {size k : Nat} {v : Value} {xs : List Value} (h : w.ownsRow base e size v k xs) (hg : w.grownBy w' row) (hr : ∀ j, v.ownBlock = some j → row ≠ some j) : w'.ownsRow base e size v k xs :=
  h.kept hg (by
    cases hv : v.ownBlock with
    | none => exact .inl rfl
    | some j => exact .inr (Ne.symm (hr j hv)))
theorem own_bel2 {w w' : World} {base : Nat} {e : TypeId} {size k : Nat} {v : Value} {xs : List Value} (h : w.ownsRow base e size v k xs) (hb : Below w.heap.size w w') : w'.ownsRow base e size v k xs :=
  Keep.row (Keep.of_below hb) h (fun j hj => by have := (h.lt j hj).2; omega)
/-- append, by an equation. -/
theorem wpList_append_eq2 {P : Program} {w w' : World} {ops : Array Oper} {rest : List Oper} {o : Oper} {a : Act} {Q : Exit → Act → World → Prop} (hgd : o.guard = none) (s x : Operand) (t : TypeId)
    (ho : o.op = .call { callee := .builtin .append, args := #[s, x], argTypes := #[t, t] }) (v u r : Value) (hs : a.eval s = v) (hx : a.eval x = u)
    (hrun : (Builtin.append_ #[t, t] o.type #[v, u]).run P w = .ok r w') (h : wpList P ops Q rest (a.put o.dst r) w') : wpList P ops Q (o :: rest) a w := by
  refine wpList_plain hgd fun K hK => ?_
  unfold Oper.wp
  simp [execOp, ho, resolve, invoke, builtin, hs, hx, hrun, Result.andThen]
  exact hK _ _ h
theorem flat_get {α : Type} (enc : α → List Value) (K : Nat) (hk : ∀ x, (enc x).length = K) : ∀ (l : List α) (i : Nat) (x : α), l[i]? = some x → ∀ (j : Nat) (u : Value), (enc x)[j]? = some u → (l.flatMap enc)[i * K + j]? = some u
  | [], i, x, h => by simp at h
  | y :: r, 0, x, h => fun j u hu => by
    have : y = x := by simpa using h
    subst this
    have hj : j < (enc y).length := (List.getElem?_eq_some_iff.1 hu).1
    show (enc y ++ r.flatMap enc)[0 * K + j]? = _
    rw [Nat.zero_mul, Nat.zero_add, List.getElem?_append_left hj]
    exact hu
  | y :: r, i + 1, x, h => fun j u hu => by
    show (enc y ++ r.flatMap enc)[(i + 1) * K + j]? = _
    have e : (i + 1) * K = K + i * K := by rw [Nat.add_mul, Nat.one_mul, Nat.add_comm]
    rw [List.getElem?_append_right (by rw [hk, e]; omega), hk, show (i + 1) * K + j - K = i * K + j by rw [e]; omega]
    exact flat_get enc K hk r i x (by simpa using h) j u hu
theorem holds_row {α : Type} [Inhabited α] {w : World} {g cap base : Nat} {e : TypeId} {K : Nat} (enc : α → List Value) (hk : ∀ x, (enc x).length = K) (d : Array α) (h : w.ownsRow base e K (.slice (some ⟨g, 0, none⟩) d.size cap) d.size (d.toList.flatMap enc)) : HoldsK enc K w g 0 d := by
  intro j hj
  rw [Go.Sort.size_flatK] at hj
  have hK : 0 < K := by
    rcases Nat.eq_zero_or_pos K with h0 | h0
    · rw [h0] at hj; simp at hj
    · exact h0
  rw [Go.Sort.get_flatK _ _ _ _ hj, Nat.zero_add]
  have hq : j / K < d.size := Nat.div_lt_of_lt_mul (by rw [Nat.mul_comm]; exact hj)
  have hr : j % K < (enc d[j / K]!).length := by rw [hk]; exact Nat.mod_lt _ hK
  have h1 : d.toList[j / K]? = some d[j / K]! := by
    rw [getElem!_pos d _ hq]
    simp [hq]
  have h2 : (enc d[j / K]!)[j % K]? = some (enc d[j / K]!)[j % K]! := by
    rw [getElem!_pos (enc d[j / K]!) (j % K) hr]
    exact List.getElem?_eq_getElem hr
  have h3 := flat_get enc K hk _ _ _ h1 _ _ h2
  rw [show j / K * K + j % K = j by rw [Nat.mul_comm]; exact Nat.div_add_mod j K] at h3
  have h4 := h.cells (g := g) rfl j _ h3
  rw [Addr.add_lit, Nat.zero_add] at h4
  exact ⟨h4, World.ownsRow.frozenAt h j⟩
theorem below_sortK {α : Type} [Inhabited α] {B : Nat} (enc : α → List Value) (k : Nat) (w : World) (blk off n : Nat) (d : Array α) (os : Array Obj) (hB : B ≤ blk) (hblk : blk < w.heap.size) : Below B w (sortWorldK enc k w blk off n d os) := by
  refine ⟨rfl, rfl, rfl, ?_, fun b hb => ?_⟩
  · exact size_sortWorldK_c enc k w blk off n d os
  · have hbl : b < (putRowK enc k (Sort.ahead w n) blk off d).heap.size := by rw [Go.Sort.size_putRowK]; show b < w.heap.size; omega
    unfold sortWorldK
    rw [Go.Sort.heap_grow_old _ _ hbl]
    show ((Sort.ahead w n).heap.modify blk _)[b]? = _
    rw [Array.getElem?_modify, if_neg (by omega)]
    rfl
/-- Sorted, as a list. -/
theorem sorted_list {α : Type} [Inhabited α] {cf : α → α → Int} {d d' : Array α} (hp : PermIn 0 d.size d d') (hs : SortedIn (ltOf cf) 0 d.size d') : d'.toList.Perm d.toList ∧ d'.size = d.size ∧ d'.toList.Pairwise (fun x y => ltOf cf y x = false) := by
  obtain ⟨h1, _, h2⟩ := hp
  rw [Array.extract_eq_self_of_le (Nat.le_refl _), Array.extract_eq_self_of_le (by omega)] at h2
  refine ⟨h2, h1, List.pairwise_iff_getElem.2 fun i j hi hj hij => ?_⟩
  have hi' : i < d'.size := by simpa using hi
  have hj' : j < d'.size := by simpa using hj
  have := hs i j (Nat.zero_le _) hij (by omega)
  rw [getElem!_pos d' j hj', getElem!_pos d' i hi'] at this
  simpa using this
/-! Edges. -/
def encE (x : Ed) : List Value := [.int .i64 x.p, .int .i64 x.m]
def cmpE (x y : Ed) : Int := orI (cmpI x.p y.p) (cmpI x.m y.m)
theorem ltE_eq (x y : Ed) : ltOf cmpE x y = ltE x y := by
  unfold ltOf cmpE ltE orI
  rw [decide_eq_decide]
  unfold cmpI
  by_cases h1 : x.p < y.p
  · simp [h1]
  · by_cases h2 : y.p < x.p
    · have h3 : ¬ x.p = y.p := by omega
      simp [h1, h2, h3]
    · have h3 : x.p = y.p := by omega
      by_cases h4 : x.m < y.m
      · simp [h3, h4]
      · by_cases h5 : y.m < x.m <;> simp [h3, h4, h5]
theorem swoE : SWO (ltOf cmpE) where
  irrefl x := by rw [ltE_eq]; unfold ltE; simp
  trans x y z h1 h2 := by rw [ltE_eq] at *; unfold ltE at *; simp only [decide_eq_true_eq] at *; omega
  ntrans x y z h1 h2 := by rw [ltE_eq] at *; unfold ltE at *; simp only [decide_eq_false_iff_not] at *; omega
theorem drewN_grow (w : World) (os : Array Obj) : ∀ n, (grow w os).drewN n = grow (w.drewN n) os := fun n => rfl
set_option maxRecDepth 100000 in
set_option maxHeartbeats 1600000 in
theorem cmpE_any (w : World) (x y : Ed) :
    Calls Tryd.prog 31 #[.agg #[.int .i64 x.p, .int .i64 x.m], .agg #[.int .i64 y.p, .int .i64 y.m]] w fun e w' => e = .returned (.int .i64 (cmpE x y)) ∧ ∃ q os', w' = grow (w.drewN q) os' := by
  obtain ⟨r, hr⟩ : ∃ r, cmpE x y = r := ⟨_, rfl⟩
  rw [hr]
  have HE := Lib.hid (show orI (cmpI x.p y.p) (cmpI x.m y.m) = r from hr)
  clear hr
  obtain ⟨xp, xm⟩ := x
  obtain ⟨yp, ym⟩ := y
  simp only at HE
  go_enter Tryd.func31, Tryd.ntmps31
  go_wp2_with fail
  have hB1 := Blk.heap ((Blk.new w 63 #[.int .i64 xp, .int .i64 xm]).alloc (.cells #[.int .i64 yp, .int .i64 ym] 63))
  have d0 : ((w.alloc (.cells #[.int .i64 xp, .int .i64 xm] 63)).alloc (.cells #[.int .i64 yp, .int .i64 ym] 63)).cell? ⟨w.heap.size, 0, none⟩ = some (.int .i64 xp) := ((Blk.new w 63 #[.int .i64 xp, .int .i64 xm]).alloc (.cells #[.int .i64 yp, .int .i64 ym] 63)).cell 0
  have d1 : ((w.alloc (.cells #[.int .i64 xp, .int .i64 xm] 63)).alloc (.cells #[.int .i64 yp, .int .i64 ym] 63)).cell? ⟨w.heap.size, 1, none⟩ = some (.int .i64 xm) := ((Blk.new w 63 #[.int .i64 xp, .int .i64 xm]).alloc (.cells #[.int .i64 yp, .int .i64 ym] 63)).cell 1
  have e0 : ((w.alloc (.cells #[.int .i64 xp, .int .i64 xm] 63)).alloc (.cells #[.int .i64 yp, .int .i64 ym] 63)).cell? ⟨w.heap.size + 1, 0, none⟩ = some (.int .i64 yp) := (Blk.newAt (w := w.alloc (.cells #[.int .i64 xp, .int .i64 xm] 63)) (t := 63) (cs := #[.int .i64 yp, .int .i64 ym]) (k := w.heap.size + 1) (by simp)).cell 0
  have e1 : ((w.alloc (.cells #[.int .i64 xp, .int .i64 xm] 63)).alloc (.cells #[.int .i64 yp, .int .i64 ym] 63)).cell? ⟨w.heap.size + 1, 1, none⟩ = some (.int .i64 ym) := (Blk.newAt (w := w.alloc (.cells #[.int .i64 xp, .int .i64 xm] 63)) (t := 63) (cs := #[.int .i64 yp, .int .i64 ym]) (k := w.heap.size + 1) (by simp)).cell 1
  clear hB1
  have HW := Lib.hid (show ∃ os, (w.alloc (.cells #[.int .i64 xp, .int .i64 xm] 63)).alloc (.cells #[.int .i64 yp, .int .i64 ym] 63) = grow w os from ⟨_, by rw [Go.Sort.alloc_eq_grow, Go.Sort.alloc_eq_grow, Go.Sort.grow_grow]⟩)
  generalize hw2 : (w.alloc (.cells #[.int .i64 xp, .int .i64 xm] 63)).alloc (.cells #[.int .i64 yp, .int .i64 ym] 63) = w2 at *
  clear hw2
  refine region_tail (C := fun w' => ∃ m, w' = w2.drewN m) 10 (by kernel_rfl) ⟨1, rfl⟩ (by kernel_rfl) (by rfl) (by kernel_rfl) (by kernel_rfl) (by kernel_rfl) (by kernel_rfl) ?_
  simp only [List.take_succ_cons, List.take_zero, List.drop_succ_cons, List.drop_zero]
  repeat (go_big_quiet_step (first | (go_at_call 22; exact Calls.quiet_of_same (Compare_still _ _ _))))
  refine wpQuiet_nil ?_
  rintro _ ⟨m, rfl⟩
  generalize cmpI xp yp = c1 at *
  generalize cmpI xm ym = c2 at *
  have HG := Lib.hid (Blk.newAt (w := w2.drewN m) (t := 3) (cs := #[.int .i64 c1, .int .i64 c2]) (k := w2.heap.size) rfl)
  go_wp2_with (go_at_call 32; go_loud ( refine (Or_any _ _ c1 c2 (HG.out.cell 0) (HG.out.cell 1)).mono ?_; rintro e w' ⟨rfl, rfl⟩))
  go_ret
  obtain ⟨os, rfl⟩ := HW.out
  refine ⟨by rw [← HE.out]; rfl, m, os ++ #[.cells #[.int .i64 c1, .int .i64 c2] 3], ?_⟩
  rw [Go.Sort.alloc_eq_grow]
  show grow ((grow w os).drewN m) _ = _
  rw [drewN_grow, Go.Sort.grow_grow]
/-! Spans. -/
def encS (x : Sp) : List Value := x.arr.toList
instance : Inhabited Sp := ⟨⟨0, 0, 0⟩⟩
def cmpS (x y : Sp) : Int := cmpI x.fr y.fr
theorem ltS_eq (x y : Sp) : ltOf cmpS x y = decide (x.fr < y.fr) := by
  unfold ltOf cmpS cmpI
  by_cases h1 : x.fr < y.fr
  · simp [h1]
  · by_cases h2 : y.fr < x.fr <;> simp [h1, h2]
theorem swoS : SWO (ltOf cmpS) where
  irrefl x := by rw [ltS_eq]; simp
  trans x y z h1 h2 := by rw [ltS_eq] at *; simp only [decide_eq_true_eq] at *; omega
  ntrans x y z h1 h2 := by rw [ltS_eq] at *; simp only [decide_eq_false_iff_not] at *; omega
set_option maxRecDepth 100000 in
set_option maxHeartbeats 1600000 in
theorem cmpS_any (w : World) (x y : Sp) :
    Calls Tryd.prog 34 #[.agg #[.int .i64 x.v, .int .i64 x.fr, .int .i64 x.till], .agg #[.int .i64 y.v, .int .i64 y.fr, .int .i64 y.till]] w fun e w' => e = .returned (.int .i64 (cmpS x y)) ∧ ∃ q os', w' = grow (w.drewN q) os' := by
  obtain ⟨r, hr⟩ : ∃ r, cmpS x y = r := ⟨_, rfl⟩
  rw [hr]
  have HE := Lib.hid (show cmpI x.fr y.fr = r from hr)
  clear hr
  obtain ⟨xv, xp, xm⟩ := x
  obtain ⟨yv, yp, ym⟩ := y
  simp only at HE
  have HC := Lib.hid (fun W => Compare_any W xp yp)
  go_enter Tryd.func34, Tryd.ntmps34
  go_wp2_with (go_at_call 22; refine (HC.out _).mono ?_; rintro e w' ⟨rfl, rfl⟩)
  go_ret
  refine ⟨by rw [← HE.out]; rfl, 0, #[.cells #[.int .i64 xv, .int .i64 xp, .int .i64 xm] 32] ++ #[.cells #[.int .i64 yv, .int .i64 yp, .int .i64 ym] 32], ?_⟩
  rw [Go.Sort.alloc_eq_grow, Go.Sort.alloc_eq_grow, Go.Sort.grow_grow]
  rfl
end Go.Proofs.YtfgdkeomjplnnaaDoor

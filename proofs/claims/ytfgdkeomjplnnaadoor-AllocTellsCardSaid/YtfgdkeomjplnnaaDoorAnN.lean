/- The document's allocation, walked: it does what the model tells. Conditions: sizes. -/
import Derived.Test.YtfgdkeomjplnnaaDoorAnM
namespace Go.Proofs.YtfgdkeomjplnnaaDoor
set_option linter.unusedVariables false
open Go.RowKit
attribute [local irreducible] Blk
/-- A store, by an equation. -/
theorem wpList_store_eq2 {P : Program} {w w' : World} {ops : Array Oper} {rest : List Oper} {o : Oper} {a : Act} {Q : Exit → Act → World → Prop} (hgd : o.guard = none) (p x : Operand) (t : TypeId)
    (ho : o.op = .store t p x) (v u : Value) (hp : a.eval p = v) (hx : a.eval x = u)
    (hrun : (Instr.storeAt t v u).run P w = .ok () w') (h : wpList P ops Q rest (a.put o.dst undef) w') : wpList P ops Q (o :: rest) a w := by
  refine wpList_plain hgd fun K hK => ?_
  unfold Oper.wp
  simp [execOp, ho, hp, hx, hrun, Result.andThen]
  exact hK _ _ h
theorem store_home {w : World} {g i : Nat} {cs : Array Value} (h : Blk w g 30 cs) (hi : i + 2 ≤ cs.size) (s : Bool) (n : Int) :
    (Instr.storeAt 30 (.pointer (some ⟨g, i, none⟩)) (.agg #[.bool s, .int .i64 n])).run Tryd.prog w = .ok () ((w.setCell ⟨g, i, none⟩ (.bool s)).setCell ⟨g, i + 1, none⟩ (.int .i64 n)) := by
  have hst := run_storeCells_cells (P := Tryd.prog) g i [.bool s, .int .i64 n] 0 w (fun j hj => by
    have hj' : j < 2 := hj
    rw [Nat.add_zero, h.cell]
    rw [Array.getElem?_eq_getElem (by omega)]
    rfl) (fun j _ => h.frozen _) (by simp [Value.oneCell'])
  rw [Nat.add_zero] at hst
  simp [Instr.storeAt, storeVar, Value.cells, Tryd.sizeOf30, go_sem] at hst ⊢
  exact hst
def hv (o : Option Nat) : Int := match o with | none => -1 | some i => (i : Int)
def hvCells (l : List (Option Nat)) : List Value := l.map (fun o => Value.int .i64 (hv o))
theorem hvCells_get {l : List (Option Nat)} {r : Nat} {o : Option Nat} (h : l[r]? = some o) : (hvCells l)[r]? = some (.int .i64 (hv o)) := by
  unfold hvCells
  rw [List.getElem?_map, h]
  rfl
theorem hvCells_set (l : List (Option Nat)) (r : Nat) (o : Option Nat) : hvCells (l.set r o) = (hvCells l).set r (.int .i64 (hv o)) := by
  unfold hvCells
  rw [List.map_set]
def curH (a b : List (Option Nat)) (q : Nat) : List (Option Nat) := a.take q ++ b.drop q
theorem curH_get {a b : List (Option Nat)} {q r : Nat} (ha : a.length = 6) (hq : q ≤ 6) (hr : r < q) : (curH a b q)[r]? = a[r]? := by
  unfold curH
  rw [List.getElem?_append_left (by simp; omega), List.getElem?_take, if_pos hr]
theorem curH_set {a b : List (Option Nat)} {r : Nat} {x : Option Nat} (ha : a.length = 6) (hb : b.length = 6) (hr : r < 6) (hx : b[r]? = some x) : (curH a b (r + 1)).set r x = curH a b r := by
  obtain ⟨hrb, ex⟩ := List.getElem?_eq_some_iff.1 hx
  unfold curH
  rw [List.take_succ_eq_append_getElem (show r < a.length by omega), List.drop_eq_getElem_cons hrb, ex, List.append_assoc]
  rw [List.set_append_right _ _ (by simp; omega)]
  simp [show min r a.length = r by omega]
theorem curH_same {a b : List (Option Nat)} {r : Nat} {x : Option Nat} (ha : a.length = 6) (hb : b.length = 6) (hr : r < 6) (hx : b[r]? = some x) (hy : a[r]? = some x) : curH a b (r + 1) = curH a b r := by
  rw [← curH_set ha hb hr hx]
  have h1 : (curH a b (r + 1))[r]? = some x := by rw [curH_get ha (by omega) (by omega)]; exact hy
  obtain ⟨hl, e⟩ := List.getElem?_eq_some_iff.1 h1
  rw [← e, List.set_getElem_self]
def frI (h : List (Option Nat)) (q : Nat) : Int := match (h.drop q).findIdx? (·.isNone) with | none => -1 | some j => ((q + j : Nat) : Int)
theorem frI_none {h : List (Option Nat)} {r : Nat} (hr : h[r]? = some none) : frI h r = (r : Int) := by
  obtain ⟨hl, e⟩ := List.getElem?_eq_some_iff.1 hr
  unfold frI
  rw [List.drop_eq_getElem_cons hl, e, List.findIdx?_cons]
  simp
theorem frI_some {h : List (Option Nat)} {r j : Nat} (hr : h[r]? = some (some j)) : frI h r = frI h (r + 1) := by
  obtain ⟨hl, e⟩ := List.getElem?_eq_some_iff.1 hr
  unfold frI
  rw [List.drop_eq_getElem_cons hl, e, List.findIdx?_cons]
  cases List.findIdx? (fun x => x.isNone) (List.drop (r + 1) h) with
  | none => simp
  | some k => simp; omega
theorem frI_six {h : List (Option Nat)} (hl : h.length = 6) : frI h 6 = -1 := by
  unfold frI
  rw [List.drop_of_length_le (by omega)]
  rfl
/-- What the walk keeps. -/
structure RA (w wr : World) (B : Nat) (hs : List Hm) (ho : List (Option Nat)) (v : Value) (n : Nat) (order : List Nat) : Prop where
  hom : Blk wr w.heap.size 30 (hmCells hs).toArray
  arr : Blk wr (w.heap.size + 1) 59 (hvCells ho).toArray
  row : wr.ownsRow B 3 1 v n (nCells order)
  bel : Below w.heap.size w wr
section
variable {w wr w2 : World} {B n : Nat} {hs : List Hm} {ho : List (Option Nat)} {v : Value} {order : List Nat}
theorem RA.far (h : RA w wr B hs ho v n order) (hb : Below wr.heap.size wr w2) : RA w w2 B hs ho v n order :=
  ⟨h.hom.below hb h.hom.lt, h.arr.below hb h.arr.lt, own_bel2 h.row hb, h.bel.trans (hb.mono h.bel.size)⟩
theorem RA.setA (h : RA w wr B hs ho v n order) (hB : w.heap.size + 1 < B) (r : Nat) (o : Option Nat) : RA w (wr.setCell ⟨w.heap.size + 1, r, none⟩ (.int .i64 (hv o))) B hs (ho.set r o) v n order := by
  refine ⟨h.hom.far (by show w.heap.size ≠ w.heap.size + 1; omega) _, ?_, ownsRow_far h.row (fun e => ?_) _, h.bel.setCell (by show w.heap.size ≤ w.heap.size + 1; omega) _⟩
  · have := h.arr.set r (.int .i64 (hv o))
    rw [hvCells_set]
    simpa using this
  · have := (h.row.lt _ e).1
    simp only at this
    omega
theorem RA.setH (h : RA w wr B hs ho v n order) (hB : w.heap.size + 1 < B) (i : Nat) (x : Hm) : RA w ((wr.setCell ⟨w.heap.size, i * 2, none⟩ (.bool x.isSlot)).setCell ⟨w.heap.size, i * 2 + 1, none⟩ (.int .i64 x.n)) B (hs.set i x) ho v n order := by
  refine ⟨?_, (h.arr.far (by show w.heap.size + 1 ≠ w.heap.size; omega) _).far (by show w.heap.size + 1 ≠ w.heap.size; omega) _, ownsRow_far (ownsRow_far h.row (fun e => ?_) _) (fun e => ?_) _, (h.bel.setCell (by exact Nat.le_refl _) _).setCell (by exact Nat.le_refl _) _⟩
  · have := (h.hom.set (i * 2) (.bool x.isSlot)).set (i * 2 + 1) (.int .i64 x.n)
    rw [hmCells_set]
    simpa using this
  · have := (h.row.lt _ e).1
    simp only at this
    omega
  · have := (h.row.lt _ e).1
    simp only at this
    omega
end
theorem giveF_free {sp : List Sp} {st : St} {h1 : List (Option Nat)} {i r : Nat} (h : frI h1 0 = (r : Int)) : giveF sp st h1 i = ⟨h1.set r (some i), st.hs.set i ⟨false, (r : Int)⟩, st.sl⟩ := by
  unfold frI at h
  rw [List.drop_zero] at h
  unfold giveF
  cases hf : h1.findIdx? (·.isNone) with
  | none => rw [hf] at h; simp only at h; omega
  | some j =>
    rw [hf] at h
    simp only at h
    have : j = r := by omega
    rw [this]
theorem giveF_full {sp : List Sp} {st : St} {h1 : List (Option Nat)} {i : Nat} (h : frI h1 0 < 0) : (∀ r, r < h1.length → ∃ j, h1[r]? = some (some j)) ∧ giveF sp st h1 i = if longest sp h1 i = i then ⟨h1, st.hs.set i ⟨true, (st.sl : Int)⟩, st.sl + 1⟩
    else ⟨h1.set (hmN st.hs (longest sp h1 i)) (some i), (st.hs.set (longest sp h1 i) ⟨true, (st.sl : Int)⟩).set i ⟨false, ((hmN st.hs (longest sp h1 i) : Nat) : Int)⟩, st.sl + 1⟩ := by
  unfold frI at h
  rw [List.drop_zero] at h
  cases hf : h1.findIdx? (·.isNone) with
  | some j => rw [hf] at h; simp only at h; omega
  | none =>
    refine ⟨fun r hr => ?_, by unfold giveF; rw [hf]⟩
    have := List.findIdx?_eq_none_iff.1 hf _ (List.getElem_mem hr)
    rw [List.getElem?_eq_getElem hr]
    cases ho : h1[r] with
    | none => rw [ho] at this; cases this
    | some j => exact ⟨j, rfl⟩
theorem slots_le2 {hs : List Hm} {sl : Nat} (hall : ∀ n : Nat, n < sl → ∃ i : Nat, hs[i]? = some ⟨true, (n : Int)⟩) : sl ≤ hs.length := by
  have hex : ∀ n : Nat, ∃ i : Nat, n < sl → hs[i]? = some ⟨true, (n : Int)⟩ := fun n => by
    by_cases h : n < sl
    · obtain ⟨i, hi⟩ := hall n h
      exact ⟨i, fun _ => hi⟩
    · exact ⟨0, fun h' => absurd h' h⟩
  have hf : ∀ n, n < sl → hs[Classical.choose (hex n)]? = some ⟨true, (n : Int)⟩ := fun n hn => Classical.choose_spec (hex n) hn
  have hnd : ((List.range sl).map (fun n => Classical.choose (hex n))).Nodup := by
    rw [List.nodup_iff_pairwise_ne, List.pairwise_map]
    refine (List.nodup_iff_pairwise_ne.1 List.nodup_range).imp_of_mem fun {a b} ha' hb' hab he => hab ?_
    have h1 := hf a (List.mem_range.1 ha')
    have h2 := hf b (List.mem_range.1 hb')
    rw [he, h2] at h1
    simp only [Option.some.injEq, Hm.mk.injEq, true_and] at h1
    omega
  have := List.Nodup.length_le_of_subset (l₂ := List.range hs.length) hnd (fun x hx => by
    obtain ⟨n, hn, rfl⟩ := List.mem_map.1 hx
    exact List.mem_range.2 (List.getElem?_eq_some_iff.1 (hf n (List.mem_range.1 hn))).1)
  simpa using this
def longTo (sp : List Sp) (h1 : List (Option Nat)) (i q : Nat) : Nat := ((h1.take q).filterMap id).foldl (longer sp) i
theorem longTo_succ {sp : List Sp} {h1 : List (Option Nat)} {i q j : Nat} (h : h1[q]? = some (some j)) : longTo sp h1 i (q + 1) = longer sp (longTo sp h1 i q) j := by
  unfold longTo
  rw [take_snoc' h, List.filterMap_append, List.foldl_append]
  rfl
theorem longTo_mem {sp : List Sp} {h1 : List (Option Nat)} {i q : Nat} : longTo sp h1 i q = i ∨ ∃ r : Nat, h1[r]? = some (some (longTo sp h1 i q)) := by
  rcases (fold_top sp ((h1.take q).filterMap id) i).1 with h | h
  · exact .inl h
  · right
    obtain ⟨r, hr⟩ := mem_holds.1 h
    rw [List.getElem?_take] at hr
    split at hr
    · exact ⟨r, hr⟩
    · cases hr
set_option maxRecDepth 100000 in
set_option maxHeartbeats 6400000 in
theorem rAlloc_any (w : World) (A : Option Addr) (sp : List Sp) (c0 : Nat) (hr : RepS w A sp) (hn : sp.length ≤ 1000) (hfr : ∀ s ∈ sp, -1000000000 ≤ s.fr ∧ s.fr ≤ 1000000000) :
    Calls Tryd.prog 13 #[.slice A sp.length c0] w (AllocP w sp) := by
  have HR := Lib.hid hr
  have HF := Lib.hid hfr
  have hmk := run_mk_homes sp.length (by omega)
  have hA := Lib.hid ((Blk.new w 30 (hmCells (List.replicate sp.length ⟨false, 0⟩)).toArray).alloc (.cells (hvCells (List.replicate 6 none)).toArray 59))
  have hB := Lib.hid (Blk.newAt (w := w.alloc (.cells (hmCells (List.replicate sp.length ⟨false, 0⟩)).toArray 30)) (t := 59) (cs := (hvCells (List.replicate 6 none)).toArray) (k := w.heap.size + 1) (by simp))
  have hBW := Lib.hid (((Below.refl w.heap.size w).alloc (Nat.le_refl _) (.cells (hmCells (List.replicate sp.length ⟨false, 0⟩)).toArray 30)).alloc (by simp) (.cells (hvCells (List.replicate 6 none)).toArray 59))
  have hsz : ((w.alloc (.cells (hmCells (List.replicate sp.length ⟨false, 0⟩)).toArray 30)).alloc (.cells (hvCells (List.replicate 6 none)).toArray 59)).heap.size = w.heap.size + 2 := by simp
  clear hr hfr
  go_enter Tryd.func13, Tryd.ntmps13
  go_wp2_with fail
  clear hmk
  generalize hw1 : (w.alloc (.cells (hmCells (List.replicate sp.length ⟨false, 0⟩)).toArray 30)).alloc (.cells #[.int .i64 (-1), .int .i64 (-1), .int .i64 (-1), .int .i64 (-1), .int .i64 (-1), .int .i64 (-1)] 59) = w1
  have hw1' : (w.alloc (.cells (hmCells (List.replicate sp.length ⟨false, 0⟩)).toArray 30)).alloc (.cells (hvCells (List.replicate 6 none)).toArray 59) = w1 := hw1
  rw [hw1'] at hA hB hBW hsz
  clear hw1 hw1'
  have HO := Lib.hid (rorder_any w1 A sp c0 (HR.out.far hBW.out) hn)
  refine HO.out.mono ?_
  rintro e w2 ⟨v, order, rfl, ho, hrow, hb2⟩
  have HOR := Lib.hid ho
  have HRA0 := Lib.hid (show RA w w2 w1.heap.size (st0 sp.length).hs (st0 sp.length).holds v sp.length order from ⟨hA.out.below hb2 hA.out.lt, hB.out.below hb2 hB.out.lt, hrow, hBW.out.trans (hb2.mono hBW.out.size)⟩)
  have hBB : w.heap.size + 1 < w1.heap.size := by omega
  obtain ⟨Av, cv, rfl⟩ := own_form hrow
  clear hrow hb2 ho HO
  go_wp2_with fail
  go_loopw [8, 10] (fun sv kv wr => ∃ k : Nat, kv = .int .i64 (k : Int) ∧ k ≤ sp.length ∧ sv = .int .i64 (((stTo sp order k).sl : Nat) : Int) ∧ Hid (RA w wr w1.heap.size (stTo sp order k).hs (stTo sp order k).holds (.slice Av sp.length cv) sp.length order)) (fun _ kv _ => sp.length - (intOf kv).toNat)
  case atStart => exact ⟨0, rfl, Nat.zero_le _, rfl, HRA0⟩
  case round =>
    obtain ⟨k, rfl, hk, rfl, HRA⟩ := hrel
    by_cases hkl : k < sp.length
    · have k0 : (0 : Int) ≤ (k : Int) := by omega
      have k1 : (k : Int) < (sp.length : Int) := by omega
      have gk : decide ((k : Int) < (sp.length : Int)) = true := decide_eq_true k1
      have hol : order.length = sp.length := HOR.out.len
      have hg : order[k]? = some (gN order k) := gN_some (by omega)
      have hil : gN order k < sp.length := List.mem_range.1 (HOR.out.perm.mem_iff.1 (gN_mem (by omega)))
      obtain ⟨at', hat, hap⟩ := ap_to HOR.out k (by omega)
      obtain ⟨hap1, _⟩ := hap.rel (hat k (Nat.le_refl _) (by omega))
      have HST := Lib.hid (stTo_succ (sp := sp) hg)
      have HAP := Lib.hid hap
      have HAP1 := Lib.hid hap1
      have HPL := Lib.hid (show ∀ j ∈ order.take k, j < sp.length from fun j hj => List.mem_range.1 (HOR.out.perm.mem_iff.1 (List.mem_of_mem_take hj)))
      have hsl : (stTo sp order k).sl ≤ 1000 := by have := slots_le2 hap.all; rw [hap.hlen] at this; omega
      obtain ⟨go, cap, he, _, hgo⟩ := HRA.out.row.form (by omega)
      obtain ⟨rfl, rfl⟩ : Av = some ⟨go, 0, none⟩ ∧ cv = cap := by simpa using he
      have ck := (World.ownsRow.cellAt HRA.out.row k (by omega)).trans (nCells_get (by omega))
      obtain ⟨bs, os, rfl⟩ := HR.out.some hil
      obtain ⟨bs', os', he2, hbs, hall⟩ := HR.out (fun e => by rw [e] at hil; simp at hil)
      obtain ⟨rfl, rfl⟩ : bs = bs' ∧ os = os' := by simpa using he2
      have HALL := Lib.hid hall
      clear he he2 hat hap hap1 hall hg hol
      generalize gN order k = i at *
      generalize hst : stTo sp order k = st at *
      clear hst
      have h6 : st.holds.length = 6 := HAP.out.len
      have HREL := Lib.hid (fun r => relH_get (sp := sp) (at' := frS sp i) (holds := st.holds) r)
      have h16 : (relH sp (frS sp i) st.holds).length = 6 := HAP1.out.len
      have HSTEP := Lib.hid (show stTo sp order (k + 1) = giveF sp st (relH sp (frS sp i) st.holds) i from HST.out)
      generalize relH sp (frS sp i) st.holds = h1 at *
      clear HST
      have i0 : (0 : Int) ≤ (i : Int) := by omega
      have i1 : (i : Int) < (sp.length : Int) := by omega
      go_wp2_with fail
      go_loopw [12, 13] (fun fv rv wq => ∃ q : Nat, rv = .int .i64 ((q : Int) - 1) ∧ q ≤ 6 ∧ fv = .int .i64 (frI h1 q) ∧ Hid (RA w wq w1.heap.size st.hs (curH st.holds h1 q) (.slice (some ⟨go, 0, none⟩) sp.length cv) sp.length order)) (fun _ rv _ => ((intOf rv) + 1).toNat)
      case atStart => exact ⟨6, rfl, Nat.le_refl _, by rw [frI_six h16], by rw [show curH st.holds h1 6 = st.holds by unfold curH; rw [List.take_of_length_le (by omega), List.drop_of_length_le (by omega), List.append_nil]]; exact HRA⟩
      case round =>
        obtain ⟨q, rfl, hq, rfl, HQ⟩ := hrel
        have hbsw : bs < wr.heap.size := by have := HQ.out.bel.size; omega
        have HRW := Lib.hid (HR.out.far HQ.out.bel)
        obtain ⟨ci, _⟩ := HRW.out.at hil
        cases q with
        | zero =>
          have hc0 : curH st.holds h1 0 = h1 := by unfold curH; rfl
          rw [hc0] at HQ
          have hhl : st.hs.length = sp.length := HAP.out.hlen
          have hhz : (hmCells st.hs).toArray.size = sp.length * 2 := by simp [hmCells_len, hhl]
          by_cases hfr : frI h1 0 < 0
          · obtain ⟨hfull, hgive⟩ := giveF_full (sp := sp) (st := st) (i := i) hfr
            have HFULL := Lib.hid (show ∀ r, r < 6 → ∃ j, h1[r]? = some (some j) from fun r hr => hfull r (by omega))
            have HG := Lib.hid (HSTEP.out.trans hgive)
            have g1 : decide (frI h1 0 < 0) = true := decide_eq_true hfr
            have g2 : decide (frI h1 0 ≥ 0) = false := decide_eq_false (by omega)
            clear hfull hgive hfr hc0
            generalize frI h1 0 = fr0 at *
            go_wp2_with fail
            go_loopw [14, 15] (fun lv rv wq => ∃ q : Nat, rv = .int .i64 (q : Int) ∧ q ≤ 6 ∧ lv = .int .i64 ((longTo sp h1 i q : Nat) : Int) ∧ Hid (RA w wq w1.heap.size st.hs h1 (.slice (some ⟨go, 0, none⟩) sp.length cv) sp.length order)) (fun _ rv _ => 6 - (intOf rv).toNat)
            case atStart => exact ⟨0, rfl, Nat.zero_le _, rfl, HQ⟩
            case round =>
              obtain ⟨q, rfl, hq, rfl, HQ3⟩ := hrel
              have hLn : longTo sp h1 i q < sp.length := by
                rcases longTo_mem (sp := sp) (h1 := h1) (i := i) (q := q) with h | ⟨r, h⟩
                · rw [h]; exact hil
                · exact HPL.out _ (HAP1.out.past r _ h)
              have L0 : (0 : Int) ≤ ((longTo sp h1 i q : Nat) : Int) := by omega
              have L1 : ((longTo sp h1 i q : Nat) : Int) < (sp.length : Int) := by omega
              by_cases hq6 : q < 6
              · have q0 : (0 : Int) ≤ (q : Int) := by omega
                have q1 : (q : Int) < 6 := by omega
                have gq : decide ((q : Int) < 6) = true := decide_eq_true q1
                obtain ⟨j, hj⟩ := HFULL.out q hq6
                have hjl := HPL.out j (HAP1.out.past q j hj)
                have HLS := Lib.hid (longTo_succ (sp := sp) (i := i) hj)
                have ca : wr.cell? ⟨w.heap.size + 1, q, none⟩ = some (.int .i64 (j : Int)) := (HQ3.out.arr.cell q).trans (by rw [List.getElem?_toArray]; exact hvCells_get hj)
                have hbsq : bs < wr.heap.size := by have := HQ3.out.bel.size; omega
                generalize longTo sp h1 i q = L at *
                obtain ⟨x, hx⟩ : ∃ x, sp[j]? = some x := ⟨_, List.getElem?_eq_getElem hjl⟩
                obtain ⟨y, hy⟩ : ∃ y, sp[L]? = some y := ⟨_, List.getElem?_eq_getElem hLn⟩
                have cell := fun (n : Nat) (s : Sp) (hs : sp[n]? = some s) (jj : Nat) (u : Value) (hu : s.arr[jj]? = some u) => (HQ3.out.bel.cell (p := ⟨bs, os + n * 3 + jj, none⟩) hbs).trans (HALL.out n s hs jj u hu)
                have a0 := cell j x hx 0 (.int .i64 x.v) rfl
                have a1 := cell j x hx 1 (.int .i64 x.fr) rfl
                have a2 := cell j x hx 2 (.int .i64 x.till) rfl
                have b0 := cell L y hy 0 (.int .i64 y.v) rfl
                have b1 := cell L y hy 1 (.int .i64 y.fr) rfl
                have b2 := cell L y hy 2 (.int .i64 y.till) rfl
                rw [Nat.add_zero] at a0 b0
                have da0 := fun p : Bel wr => bel_cell a0 hbsq p
                have da1 := fun p : Bel wr => bel_cell a1 hbsq p
                have da2 := fun p : Bel wr => bel_cell a2 hbsq p
                have db0 := fun p : Bel wr => bel_cell b0 hbsq p
                have db1 := fun p : Bel wr => bel_cell b1 hbsq p
                have db2 := fun p : Bel wr => bel_cell b2 hbsq p
                obtain ⟨fx0, fx1⟩ := HF.out x (List.mem_of_getElem? hx)
                obtain ⟨fy0, fy1⟩ := HF.out y (List.mem_of_getElem? hy)
                have HX := Lib.hid (fun W => rend_any W x fx0 fx1)
                have HY := Lib.hid (fun W => rend_any W y fy0 fy1)
                have HLO := Lib.hid (show longer sp L j = if (enS y < enS x ∨ (enS y = enS x ∧ L < j)) then j else L from by
                  unfold longer lo
                  rw [(sp_get hx).1, (sp_get hy).1]
                  simp only [decide_eq_true_eq])
                have j0 : (0 : Int) ≤ (j : Int) := by omega
                have j1 : (j : Int) < (sp.length : Int) := by omega
                clear cell a0 a1 a2 b0 b1 b2 hx hy fx0 fx1 fy0 fy1 hj
                obtain ⟨xv, xf, xt⟩ := x
                obtain ⟨yv, yf, yt⟩ := y
                simp only at da0 da1 da2 db0 db1 db2 HX HY HLO
                generalize enS ⟨xv, xf, xt⟩ = ex at *
                generalize enS ⟨yv, yf, yt⟩ = ey at *
                by_cases u1 : ey < ex
                · have v1 : decide (ex > ey) = true := decide_eq_true u1
                  have v1' : decide (ey < ex) = true := decide_eq_true u1
                  have HN := Lib.hid (show longTo sp h1 i (q + 1) = j from by rw [HLS.out, HLO.out, if_pos (.inl u1)])
                  clear u1
                  go_wp2_with fail
                  refine region_bel (by kernel_rfl) (by kernel_rfl) ?_
                  repeat (go_big_quiet_step (first | (go_at_call_of 27 (Value.agg #[.int .i64 xv, .int .i64 xf, .int .i64 xt]); exact calls_bel (HX.out _)) | (go_at_call_of 27 (Value.agg #[.int .i64 yv, .int .i64 yf, .int .i64 yt]); exact calls_bel (HY.out _))))
                  refine wpQuiet_nil ?_
                  rintro _ ⟨p, rfl⟩
                  have HN5 := Lib.hid (HQ3.out.far p.le)
                  generalize p.val = w5 at *
                  go_wp2_with fail
                  exact ⟨⟨q + 1, rfl, by omega, by rw [HN.out], HN5⟩, by simp [intOf]; omega⟩
                · have v1 : decide (ex > ey) = false := decide_eq_false u1
                  have v1' : decide (ey < ex) = false := decide_eq_false u1
                  by_cases u2 : ex = ey
                  · have v2 : ((ex : Int) == ey) = true := by simp [u2]
                    by_cases u3 : L < j
                    · have v3 : decide ((j : Int) > (L : Int)) = true := decide_eq_true (by omega)
                      have v3' : decide (L < j) = true := decide_eq_true u3
                      have v3'' : decide ((L : Int) < (j : Int)) = true := decide_eq_true (by omega)
                      have HN := Lib.hid (show longTo sp h1 i (q + 1) = j from by rw [HLS.out, HLO.out, if_pos (.inr ⟨u2.symm, u3⟩)])
                      clear u1 u2 u3
                      go_wp2_with fail
                      refine region_bel (by kernel_rfl) (by kernel_rfl) ?_
                      repeat (go_big_quiet_step (first | (go_at_call_of 27 (Value.agg #[.int .i64 xv, .int .i64 xf, .int .i64 xt]); exact calls_bel (HX.out _)) | (go_at_call_of 27 (Value.agg #[.int .i64 yv, .int .i64 yf, .int .i64 yt]); exact calls_bel (HY.out _))))
                      refine wpQuiet_nil ?_
                      rintro _ ⟨p, rfl⟩
                      have HN5 := Lib.hid (HQ3.out.far p.le)
                      generalize p.val = w5 at *
                      go_wp2_with fail
                      exact ⟨⟨q + 1, rfl, by omega, by rw [HN.out], HN5⟩, by simp [intOf]; omega⟩
                    · have v3 : decide ((j : Int) > (L : Int)) = false := decide_eq_false (by omega)
                      have v3' : decide (L < j) = false := decide_eq_false u3
                      have v3'' : decide ((L : Int) < (j : Int)) = false := decide_eq_false (by omega)
                      have HN := Lib.hid (show longTo sp h1 i (q + 1) = L from by rw [HLS.out, HLO.out, if_neg (fun h => by rcases h with h | h <;> omega)])
                      clear u1 u2 u3
                      go_wp2_with fail
                      refine region_bel (by kernel_rfl) (by kernel_rfl) ?_
                      repeat (go_big_quiet_step (first | (go_at_call_of 27 (Value.agg #[.int .i64 xv, .int .i64 xf, .int .i64 xt]); exact calls_bel (HX.out _)) | (go_at_call_of 27 (Value.agg #[.int .i64 yv, .int .i64 yf, .int .i64 yt]); exact calls_bel (HY.out _))))
                      refine wpQuiet_nil ?_
                      rintro _ ⟨p, rfl⟩
                      have HN5 := Lib.hid (HQ3.out.far p.le)
                      generalize p.val = w5 at *
                      go_wp2_with fail
                      exact ⟨⟨q + 1, rfl, by omega, by rw [HN.out], HN5⟩, by simp [intOf]; omega⟩
                  · have v2 : ((ex : Int) == ey) = false := by simp [u2]
                    have HN := Lib.hid (show longTo sp h1 i (q + 1) = L from by rw [HLS.out, HLO.out, if_neg (fun h => by rcases h with h | h <;> omega)])
                    clear u1 u2
                    go_wp2_with fail
                    refine region_bel (by kernel_rfl) (by kernel_rfl) ?_
                    repeat (go_big_quiet_step (first | (go_at_call_of 27 (Value.agg #[.int .i64 xv, .int .i64 xf, .int .i64 xt]); exact calls_bel (HX.out _)) | (go_at_call_of 27 (Value.agg #[.int .i64 yv, .int .i64 yf, .int .i64 yt]); exact calls_bel (HY.out _))))
                    refine wpQuiet_nil ?_
                    rintro _ ⟨p, rfl⟩
                    have HN5 := Lib.hid (HQ3.out.far p.le)
                    generalize p.val = w5 at *
                    go_wp2_with fail
                    exact ⟨⟨q + 1, rfl, by omega, by rw [HN.out], HN5⟩, by simp [intOf]; omega⟩
              · have hqe : q = 6 := by omega
                have gq : decide ((q : Int) < 6) = false := decide_eq_false (by omega)
                have hmem := longTo_mem (sp := sp) (h1 := h1) (i := i) (q := q)
                have HLL := Lib.hid (show longest sp h1 i = longTo sp h1 i q from by
                  unfold longest longTo
                  rw [List.take_of_length_le (by omega)])
                clear hqe hq6 hq
                generalize longTo sp h1 i q = L at *
                by_cases hL : L = i
                · have v1 : ((L : Int) != (i : Int)) = false := by simp [hL]
                  have HST1 := Lib.hid (store_home HQ3.out.hom (show L * 2 + 2 ≤ _ by omega) true ((st.sl : Nat) : Int))
                  have HR1 := Lib.hid (HQ3.out.setH hBB L ⟨true, ((st.sl : Nat) : Int)⟩)
                  simp only at HR1
                  generalize (wr.setCell ⟨w.heap.size, L * 2, none⟩ (.bool true)).setCell ⟨w.heap.size, L * 2 + 1, none⟩ (.int .i64 ((st.sl : Nat) : Int)) = w6 at *
                  have HG2 := Lib.hid (show stTo sp order (k + 1) = ⟨h1, st.hs.set L ⟨true, (st.sl : Int)⟩, st.sl + 1⟩ from by rw [HG.out, HLL.out, if_pos hL, hL])
                  have HR2 := Lib.hid (show RA w w6 w1.heap.size (stTo sp order (k + 1)).hs (stTo sp order (k + 1)).holds (.slice (some ⟨go, 0, none⟩) sp.length cv) sp.length order from by rw [HG2.out]; exact HR1.out)
                  have HSL := Lib.hid (show (stTo sp order (k + 1)).sl = st.sl + 1 from by rw [HG2.out])
                  have hsl2 : ((st.sl : Nat) : Int) ≤ 1000 := by omega
                  have hsl3 : (0 : Int) ≤ ((st.sl : Nat) : Int) := by omega
                  clear hL hmem hsl
                  generalize st.sl = sl at *
                  go_wp2_with (refine wpList_store_eq2 rfl _ _ _ rfl _ _ rfl rfl HST1.out ?_)
                  exact ⟨⟨k + 1, rfl, by omega, by rw [HSL.out]; simp, HR2⟩, by simp [intOf]; omega⟩
                · have v1 : ((L : Int) != (i : Int)) = true := by
                    simp only [bne_iff_ne, ne_eq]
                    omega
                  obtain ⟨r0, hr0⟩ := hmem.resolve_left hL
                  have hr6 : r0 < 6 := by have := (List.getElem?_eq_some_iff.1 hr0).1; omega
                  have hhome : st.hs[L]? = some ⟨false, (r0 : Int)⟩ := HAP1.out.home r0 L hr0
                  obtain ⟨m1, m2⟩ := hmCells_get _ _ _ hhome
                  have cL := (HQ3.out.hom.cell (L * 2 + 1)).trans (show _ = some (Value.int .i64 (r0 : Int)) by simpa using m2)
                  have hhN : hmN st.hs L = r0 := by unfold hmN; rw [hhome]; simp
                  have HST1 := Lib.hid (store_home HQ3.out.hom (show L * 2 + 2 ≤ _ by omega) true ((st.sl : Nat) : Int))
                  have HR1 := Lib.hid (HQ3.out.setH hBB L ⟨true, ((st.sl : Nat) : Int)⟩)
                  simp only at HR1
                  generalize (wr.setCell ⟨w.heap.size, L * 2, none⟩ (.bool true)).setCell ⟨w.heap.size, L * 2 + 1, none⟩ (.int .i64 ((st.sl : Nat) : Int)) = w6 at *
                  have HST2 := Lib.hid (store_home HR1.out.hom (show i * 2 + 2 ≤ _ by simp [hmCells_len, hhl]; omega) false (r0 : Int))
                  have HR2 := Lib.hid (HR1.out.setH hBB i ⟨false, (r0 : Int)⟩)
                  simp only at HR2
                  generalize (w6.setCell ⟨w.heap.size, i * 2, none⟩ (.bool false)).setCell ⟨w.heap.size, i * 2 + 1, none⟩ (.int .i64 (r0 : Int)) = w7 at *
                  have c7 := (HR2.out.arr.cell r0).trans (show _ = some (Value.int .i64 (hv (some L))) by rw [List.getElem?_toArray]; exact hvCells_get hr0)
                  have f7 := HR2.out.arr.frozen r0
                  have HG2 := Lib.hid (show stTo sp order (k + 1) = ⟨h1.set r0 (some i), (st.hs.set L ⟨true, (st.sl : Int)⟩).set i ⟨false, (r0 : Int)⟩, st.sl + 1⟩ from by rw [HG.out, HLL.out, if_neg hL, hhN])
                  have HR3 := Lib.hid (show RA w (w7.setCell ⟨w.heap.size + 1, r0, none⟩ (.int .i64 (i : Int))) w1.heap.size (stTo sp order (k + 1)).hs (stTo sp order (k + 1)).holds (.slice (some ⟨go, 0, none⟩) sp.length cv) sp.length order from by
                    rw [HG2.out]
                    exact HR2.out.setA hBB r0 (some i))
                  have HSL := Lib.hid (show (stTo sp order (k + 1)).sl = st.sl + 1 from by rw [HG2.out])
                  have hsl2 : ((st.sl : Nat) : Int) ≤ 1000 := by omega
                  have hsl3 : (0 : Int) ≤ ((st.sl : Nat) : Int) := by omega
                  have r0' : (0 : Int) ≤ (r0 : Int) := by omega
                  have r1' : (r0 : Int) < 6 := by omega
                  have g3 : decide ((r0 : Int) ≥ 0) = true := decide_eq_true r0'
                  clear hL hmem hsl hr0 hhome m1 m2 hhN
                  generalize st.sl = sl at *
                  generalize hv (some L) = ov at *
                  go_wp2_with (first | (refine wpList_store_eq2 rfl _ _ _ rfl _ _ rfl rfl HST1.out ?_) | (refine wpList_store_eq2 rfl _ _ _ rfl _ _ rfl rfl HST2.out ?_))
                  exact ⟨⟨k + 1, rfl, by omega, by rw [HSL.out]; simp, HR3⟩, by simp [intOf]; omega⟩
          · obtain ⟨r0, hr0⟩ : ∃ r0 : Nat, frI h1 0 = (r0 : Int) := ⟨(frI h1 0).toNat, by omega⟩
            have hr6 : r0 < 6 := by
              unfold frI at hr0
              cases hfi : (h1.drop 0).findIdx? (·.isNone) with
              | none => rw [hfi] at hr0; simp only at hr0; omega
              | some j =>
                rw [hfi] at hr0
                simp only at hr0
                have := (List.findIdx?_eq_some_iff_findIdx_eq.1 hfi).1
                rw [List.drop_zero] at this
                omega
            have HG := Lib.hid (HSTEP.out.trans (giveF_free hr0))
            rw [hr0]
            obtain ⟨o, ho⟩ : ∃ o, h1[r0]? = some o := ⟨_, List.getElem?_eq_getElem (by omega)⟩
            have HST1 := Lib.hid (store_home HQ.out.hom (show i * 2 + 2 ≤ _ by omega) false (r0 : Int))
            have HR1 := Lib.hid (HQ.out.setH hBB i ⟨false, (r0 : Int)⟩)
            simp only at HR1
            generalize (wr.setCell ⟨w.heap.size, i * 2, none⟩ (.bool false)).setCell ⟨w.heap.size, i * 2 + 1, none⟩ (.int .i64 (r0 : Int)) = w6 at *
            have c6 := (HR1.out.arr.cell r0).trans (show _ = some (Value.int .i64 (hv o)) by rw [List.getElem?_toArray]; exact hvCells_get ho)
            have f6 := HR1.out.arr.frozen r0
            have HR2 := Lib.hid (show RA w (w6.setCell ⟨w.heap.size + 1, r0, none⟩ (.int .i64 (i : Int))) w1.heap.size (stTo sp order (k + 1)).hs (stTo sp order (k + 1)).holds (.slice (some ⟨go, 0, none⟩) sp.length cv) sp.length order from by
              rw [HG.out]
              exact HR1.out.setA hBB r0 (some i))
            have HSL := Lib.hid (show (stTo sp order (k + 1)).sl = st.sl from by rw [HG.out])
            have r0' : (0 : Int) ≤ (r0 : Int) := by omega
            have r1' : (r0 : Int) < 6 := by omega
            have g1 : decide ((r0 : Int) < 0) = false := decide_eq_false (by omega)
            have g2 : decide ((r0 : Int) ≥ 0) = true := decide_eq_true r0'
            generalize hv o = ov at *
            clear hfr hr0 ho hc0 hhz
            go_wp2_with (refine wpList_store_eq2 rfl _ _ _ rfl _ _ rfl rfl HST1.out ?_)
            exact ⟨⟨k + 1, rfl, by omega, by rw [HSL.out], HR2⟩, by simp [intOf]; omega⟩
        | succ r =>
          have e1 : (((r + 1 : Nat) : Int) - 1) = (r : Int) := by omega
          rw [e1]
          have r0 : (0 : Int) ≤ (r : Int) := by omega
          have r1 : (r : Int) < 6 := by omega
          have gr : decide ((r : Int) ≥ 0) = true := decide_eq_true r0
          obtain ⟨o, ho⟩ : ∃ o, st.holds[r]? = some o := ⟨_, List.getElem?_eq_getElem (by omega)⟩
          have ca := (HQ.out.arr.cell r).trans (show _ = some (Value.int .i64 (hv o)) by rw [List.getElem?_toArray]; exact hvCells_get ((curH_get h6 hq (Nat.lt_succ_self r)).trans ho))
          have hal := HQ.out.arr.lt
          have h1r := HREL.out r
          rw [ho] at h1r
          have da := fun p : Bel wr => bel_cell ca hal p
          have di := fun p : Bel wr => bel_cell ci hbsw p
          cases o with
          | none =>
            have h1n : h1[r]? = some none := h1r
            have HN := Lib.hid (show RA w wr w1.heap.size st.hs (curH st.holds h1 r) (.slice (some ⟨go, 0, none⟩) sp.length cv) sp.length order from by rw [← curH_same h6 h16 (by omega) h1n ho]; exact HQ.out)
            have HF2 := Lib.hid (frI_none h1n)
            have da' : ∀ p : Bel wr, p.val.cell? ⟨w.heap.size + 1, r, none⟩ = some (.int .i64 (-1)) := da
            clear da ca h1r h1n ho e1
            go_wp2_with fail
            refine region_bel (by kernel_rfl) (by kernel_rfl) ?_
            repeat (go_big_quiet_step (fail))
            refine wpQuiet_nil ?_
            rintro _ ⟨p, rfl⟩
            have HN5 := Lib.hid (HN.out.far p.le)
            have c5 := da' p
            generalize p.val = w5 at *
            clear da'
            go_wp2_with fail
            exact ⟨⟨r, rfl, by omega, by rw [HF2.out], HN5⟩, by simp [intOf]⟩
          | some j =>
            have hjl := HPL.out j (HAP.out.past r j ho)
            obtain ⟨x, hx⟩ : ∃ x, sp[j]? = some x := ⟨_, List.getElem?_eq_getElem hjl⟩
            have cell := fun (jj : Nat) (u : Value) (hu : x.arr[jj]? = some u) => (HQ.out.bel.cell (p := ⟨bs, os + j * 3 + jj, none⟩) hbs).trans (HALL.out j x hx jj u hu)
            have c0 := cell 0 (.int .i64 x.v) rfl
            have c1 := cell 1 (.int .i64 x.fr) rfl
            have c2 := cell 2 (.int .i64 x.till) rfl
            rw [Nat.add_zero] at c0
            have d0 := fun p : Bel wr => bel_cell c0 hbsw p
            have d1 := fun p : Bel wr => bel_cell c1 hbsw p
            have d2 := fun p : Bel wr => bel_cell c2 hbsw p
            have da' : ∀ p : Bel wr, p.val.cell? ⟨w.heap.size + 1, r, none⟩ = some (.int .i64 (j : Int)) := da
            obtain ⟨f0, f1⟩ := HF.out x (List.mem_of_getElem? hx)
            have HEN := Lib.hid (fun W => rend_any W x f0 f1)
            have j0 : (0 : Int) ≤ (j : Int) := by omega
            have j1 : (j : Int) < (sp.length : Int) := by omega
            have v1 : decide ((j : Int) ≥ 0) = true := decide_eq_true j0
            have v3 : decide ((j : Int) < 0) = false := decide_eq_false (by omega)
            have hgo : gone (frS sp i) (mkH sp j) = decide (enS x ≤ frS sp i) := by rw [(sp_get hx).1]; rfl
            simp only [Option.map_some, Option.bind_some, hgo] at h1r
            clear cell c0 c1 c2 hx f0 f1 da hgo
            obtain ⟨xv, xf, xt⟩ := x
            simp only at d0 d1 d2 HEN h1r
            generalize enS ⟨xv, xf, xt⟩ = en at *
            by_cases hgn : en ≤ frS sp i
            · rw [if_pos (decide_eq_true hgn)] at h1r
              have HC := Lib.hid (curH_set h6 h16 (show r < 6 by omega) h1r)
              have HF2 := Lib.hid (frI_none h1r)
              have v2 : decide (en ≤ frS sp i) = true := decide_eq_true hgn
              clear hgn h1r ho ca e1
              go_wp2_with fail
              refine region_bel (by kernel_rfl) (by kernel_rfl) ?_
              repeat (go_big_quiet_step (first | (go_at_call 27; exact calls_bel (HEN.out _))))
              refine wpQuiet_nil ?_
              rintro _ ⟨p, rfl⟩
              have HQ5 := Lib.hid (HQ.out.far p.le)
              have c5 := da' p
              generalize p.val = w5 at *
              have fz5 := HQ5.out.arr.frozen r
              have HN5 := Lib.hid (HQ5.out.setA hBB r none)
              rw [HC.out] at HN5
              clear da'
              go_wp2_with fail
              exact ⟨⟨r, rfl, by omega, by rw [HF2.out], HN5⟩, by simp [intOf]⟩
            · rw [if_neg (by simpa using hgn)] at h1r
              have HF2 := Lib.hid (frI_some h1r)
              have HN := Lib.hid (show RA w wr w1.heap.size st.hs (curH st.holds h1 r) (.slice (some ⟨go, 0, none⟩) sp.length cv) sp.length order from by rw [← curH_same h6 h16 (by omega) h1r ho]; exact HQ.out)
              have v2 : decide (en ≤ frS sp i) = false := decide_eq_false hgn
              clear hgn h1r ho ca e1
              go_wp2_with fail
              refine region_bel (by kernel_rfl) (by kernel_rfl) ?_
              repeat (go_big_quiet_step (first | (go_at_call 27; exact calls_bel (HEN.out _))))
              refine wpQuiet_nil ?_
              rintro _ ⟨p, rfl⟩
              have HN5 := Lib.hid (HN.out.far p.le)
              have c5 := da' p
              generalize p.val = w5 at *
              clear da'
              go_wp2_with fail
              exact ⟨⟨r, rfl, by omega, by rw [HF2.out], HN5⟩, by simp [intOf]⟩
    · have hke : k = sp.length := by omega
      subst hke
      have gk : decide ((sp.length : Int) < (sp.length : Int)) = false := decide_eq_false (by omega)
      have hol : order.length = sp.length := HOR.out.len
      have hend : stTo sp order sp.length = allocF sp order := by
        unfold stTo allocF
        rw [List.take_of_length_le (by omega)]
      rw [hend] at HRA ⊢
      have HAO := Lib.hid (apart_law HOR.out)
      have hhl : (allocF sp order).hs.length = sp.length := by
        obtain ⟨_, h⟩ := ap_end HOR.out
        exact h.hlen
      have HOK := Lib.hid (show HsOk (allocF sp order).hs from fun x hx => by
        obtain ⟨i, hi⟩ := List.getElem?_of_mem hx
        obtain ⟨xs, xn⟩ := x
        have hs1 := slots_le HAO.out
        have hrg := HAO.out.rg
        simp only
        cases xs with
        | true => have := HAO.out.isslot i xn hi; omega
        | false => have := HAO.out.isreg i xn hi; omega)
      have HALP := Lib.hid (fun m => show AllocP w sp (.returned (.tuple #[.slice (some ⟨w.heap.size, 0, none⟩) sp.length sp.length, .int .i64 (regsF (allocF sp order).hs), .int .i64 ((allocF sp order).sl : Int)])) (wr.drewN m) from
        ⟨order, w.heap.size, HOR.out, Nat.le_refl _, rfl, HRA.out.hom.drewN m, hhl, HOK.out, below_drewN HRA.out.bel m⟩)
      have HRG := Lib.hid (show regsTo (allocF sp order).hs sp.length = regsF (allocF sp order).hs from by
        unfold regsTo
        rw [List.take_of_length_le (by omega)])
      have HHL := Lib.hid hhl
      clear hend hol hhl
      generalize (allocF sp order).hs = hs at *
      generalize (allocF sp order).sl = sl at *
      generalize (allocF sp order).holds = hds at *
      go_wp2_with fail
      go_loopw [7, 17] (fun rv qv wq => ∃ q : Nat, qv = .int .i64 (q : Int) ∧ q ≤ sp.length ∧ rv = .int .i64 (regsTo hs q) ∧ Hid (∃ m, wq = wr.drewN m)) (fun _ qv _ => sp.length - (intOf qv).toNat)
      case atStart => exact ⟨0, rfl, Nat.zero_le _, rfl, Lib.hid ⟨0, rfl⟩⟩
      case round =>
        obtain ⟨q, rfl, hq, rfl, HM⟩ := hrel
        obtain ⟨m, rfl⟩ := HM.out
        by_cases hlt : q < sp.length
        · have q0 : (0 : Int) ≤ (q : Int) := by omega
          have q1 : (q : Int) < (sp.length : Int) := by omega
          have gq : decide ((q : Int) < (sp.length : Int)) = true := decide_eq_true q1
          obtain ⟨x, hx⟩ : ∃ x, hs[q]? = some x := ⟨_, List.getElem?_eq_getElem (by rw [HHL.out]; exact hlt)⟩
          obtain ⟨g1, g2⟩ := hmCells_get _ _ _ hx
          have c1 := (HRA.out.hom.cell (q * 2)).trans (show _ = some (Value.bool x.isSlot) by simpa using g1)
          have c2 := (HRA.out.hom.cell (q * 2 + 1)).trans (show _ = some (Value.int .i64 x.n) by simpa using g2)
          obtain ⟨x0, x1⟩ := HOK.out x (List.mem_of_getElem? hx)
          have HS1 := Lib.hid (regsTo_succ hx)
          obtain ⟨xs, xn⟩ := x
          simp only at x0 x1 c1 c2 HS1
          obtain ⟨mx, hm⟩ : ∃ m, max (regsTo hs q) (xn + 1) = m := ⟨_, rfl⟩
          have hmax := fun ats ty => max_lit ats ty (regsTo hs q) (xn + 1)
          rw [hm] at hmax HS1
          clear hm hx g1 g2
          generalize regsTo hs q = rq at *
          cases xs
          · go_wp2_with fail
            rw [if_neg Bool.false_ne_true] at HS1
            exact ⟨⟨q + 1, rfl, by omega, by rw [HS1.out], Lib.hid ⟨m, rfl⟩⟩, by simp [intOf]; omega⟩
          · go_wp2_with fail
            rw [if_pos rfl] at HS1
            exact ⟨⟨q + 1, rfl, by omega, by rw [HS1.out], Lib.hid ⟨m, rfl⟩⟩, by simp [intOf]; omega⟩
        · have hqe : q = sp.length := by omega
          subst hqe
          have gq : decide ((sp.length : Int) < (sp.length : Int)) = false := decide_eq_false (by omega)
          rw [HRG.out]
          go_wp2_with fail
          refine bodyPost_ret (v := .tuple #[.slice (some ⟨w.heap.size, 0, none⟩) sp.length sp.length, .int .i64 (regsF hs), .int .i64 ((sl : Nat) : Int)]) (by simp [results, Tryd.results13, go_sem]) rfl ?_
          exact HALP.out m
end Go.Proofs.YtfgdkeomjplnnaaDoor

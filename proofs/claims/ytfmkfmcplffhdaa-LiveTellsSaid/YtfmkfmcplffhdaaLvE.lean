/- live.touches: the places at which values are read, and made, one by one. No condition. -/
import Derived.Test.YtfmkfmcplffhdaaLvD
import Derived.RangeFuncNested
import Derived.RangeFuncBound
import Derived.RangeFuncCalls
import Derived.RangeFuncLeaves
import Derived.Shelf.Abstract
import Derived.Shelf.RegionOpen
import Derived.WalkKit
import Derived.OwnWalkIn
import Derived.TacticsInMore
import Derived.LoopNIn
import Derived.LoopIn
namespace Go.Proofs.Ytfmkfmcplffhdaa
set_option linter.unusedVariables false
open Go.RowKit Go.Shelf
attribute [local go_sem] Oper.semAt_some
attribute [local irreducible] Blk

/-- A place at which a value is read, or made. -/
structure T3 where
  v : Int
  at' : Nat
  made : Bool
def T3.arr (x : T3) : Array Value := #[.int .i64 x.v, .int .i64 (x.at' : Int), .bool x.made]
def touchR (k : Nat) (l : List Int) : List T3 := l.map (fun v => ⟨v, k, false⟩)
def touchI (k : Nat) (i : I9) : List T3 := touchR k (readsL i) ++ (if 0 ≤ makesL i then [⟨makesL i, k, true⟩] else [])
/-- Those of the instructions from place k on. -/
def touchFrom : Nat → List I9 → List T3
  | _, [] => []
  | k, i :: r => touchI k i ++ touchFrom (k + 1) r
def touchL (l : List I9) : List T3 := touchFrom 0 l
theorem touchFrom_append : ∀ (k : Nat) (a b : List I9), touchFrom k (a ++ b) = touchFrom k a ++ touchFrom (k + a.length) b
  | k, [], b => by simp [touchFrom]
  | k, i :: a, b => by simp only [List.cons_append, touchFrom, touchFrom_append (k + 1) a b, List.append_assoc, List.length_cons]; congr 3; omega
theorem touch_take_succ {l : List I9} {k : Nat} {x : I9} (h : l[k]? = some x) : touchL (l.take (k + 1)) = touchL (l.take k) ++ touchI k x := by
  have hk := (List.getElem?_eq_some_iff.1 h).1
  rw [take_snoc' h]
  unfold touchL
  rw [touchFrom_append, List.length_take, Nat.min_eq_left (by omega)]
  simp [touchFrom]
theorem touch_prefix (l : List I9) (k : Nat) : touchL (l.take k) <+: touchL l := by
  refine ⟨touchFrom (0 + (l.take k).length) (l.drop k), ?_⟩
  unfold touchL
  rw [← touchFrom_append, List.take_append_drop]

theorem readsL_len (i : I9) : (readsL i).length ≤ 2 := by
  unfold readsL
  split
  · exact Nat.le_trans (keep0_len _) (rawU_len _ _ _)
  · simp
theorem touch_lt {l : List I9} {k j : Nat} {x : I9} (h : l[k]? = some x) (hj : j < (readsL x).length) : (touchL (l.take k) ++ touchR k ((readsL x).take j)).length < (touchL l).length := by
  have h1 := (touch_prefix l (k + 1)).length_le
  rw [touch_take_succ h] at h1
  simp only [touchI, touchR, List.length_append, List.length_map, List.length_take] at h1 ⊢
  omega
theorem touch_lt2 {l : List I9} {k : Nat} {x : I9} (h : l[k]? = some x) (hm : 0 ≤ makesL x) : (touchL (l.take k) ++ touchR k (readsL x)).length < (touchL l).length := by
  have h1 := (touch_prefix l (k + 1)).length_le
  rw [touch_take_succ h] at h1
  simp only [touchI, if_pos hm, List.length_append, List.length_cons, List.length_nil] at h1 ⊢
  omega
theorem touchR_snoc (k : Nat) {rs : List Int} {j : Nat} {v : Int} (h : rs[j]? = some v) : touchR k (rs.take (j + 1)) = touchR k (rs.take j) ++ [⟨v, k, false⟩] := by
  rw [take_snoc' h]
  simp [touchR]
theorem touch_pre1 {l : List I9} {k j : Nat} {x : I9} (h : l[k]? = some x) : touchL (l.take k) ++ touchR k ((readsL x).take j) <+: touchL l := by
  refine List.IsPrefix.trans ?_ (touch_prefix l (k + 1))
  rw [touch_take_succ h]
  refine ⟨touchR k ((readsL x).drop j) ++ (if 0 ≤ makesL x then [⟨makesL x, k, true⟩] else []), ?_⟩
  unfold touchI
  have : touchR k (readsL x) = touchR k ((readsL x).take j) ++ touchR k ((readsL x).drop j) := by
    unfold touchR
    rw [← List.map_append, List.take_append_drop]
  rw [this]
  simp only [List.append_assoc]
theorem touch_pre2 {l : List I9} {k : Nat} {x : I9} (h : l[k]? = some x) (hm : 0 ≤ makesL x) : touchL (l.take k) ++ touchR k (readsL x) ++ [⟨makesL x, k, true⟩] <+: touchL l := by
  refine List.IsPrefix.trans ?_ (touch_prefix l (k + 1))
  rw [touch_take_succ h]
  unfold touchI
  rw [if_pos hm, List.append_assoc]
  exact List.prefix_refl _
theorem mem_of_pre {α : Type} {a : List α} {x : α} {l : List α} (h : a ++ [x] <+: l) : x ∈ l := h.subset (by simp)
theorem touch_at_from : ∀ (k : Nat) (l : List I9) (t : T3), t ∈ touchFrom k l → ∃ j i, t.at' = k + j ∧ l[j]? = some i ∧ t ∈ touchI t.at' i
  | k, [], t, h => by simp [touchFrom] at h
  | k, i :: r, t, h => by
    simp only [touchFrom, List.mem_append] at h
    rcases h with h | h
    · have : t.at' = k := by
        simp only [touchI, touchR, List.mem_append, List.mem_map] at h
        rcases h with ⟨v, _, rfl⟩ | h
        · rfl
        · split at h
          · simp only [List.mem_singleton] at h
            rw [h]
          · cases h
      exact ⟨0, i, by omega, by simp, by rw [this]; exact h⟩
    · obtain ⟨j, x, h1, h2, h3⟩ := touch_at_from (k + 1) r t h
      exact ⟨j + 1, x, by omega, by simpa using h2, h3⟩
theorem touch_at {l : List I9} {t : T3} (h : t ∈ touchL l) : ∃ i, l[t.at']? = some i ∧ t ∈ touchI t.at' i := by
  obtain ⟨j, i, h1, h2, h3⟩ := touch_at_from 0 l t h
  rw [Nat.zero_add] at h1
  exact ⟨i, by rw [h1]; exact h2, h3⟩
theorem touch_at_lt {l : List I9} {t : T3} (h : t ∈ touchL l) : t.at' < l.length := by
  obtain ⟨i, hi, _⟩ := touch_at h
  exact (List.getElem?_eq_some_iff.1 hi).1
/-- What is cells lies as it lay. -/
structure KpC (W W' : World) : Prop where
  size : W.heap.size ≤ W'.heap.size
  same : ∀ (k : Nat) (o : Obj), W.heap[k]? = some o → o.isCells = true → W'.heap[k]? = some o
theorem KpC.refl (W : World) : KpC W W := ⟨Nat.le_refl _, fun _ _ h _ => h⟩
theorem KpC.trans {A B C : World} (h : KpC A B) (k : KpC B C) : KpC A C := ⟨Nat.le_trans h.size k.size, fun i o hi ho => k.same i o (h.same i o hi ho) ho⟩
theorem KpC.of_below {W W' : World} (h : Below W.heap.size W W') : KpC W W' := ⟨h.size, fun k o hk _ => (h.block k (Array.getElem?_eq_some_iff.1 hk).1).trans hk⟩
theorem KpC.putObj {W : World} {l : Nat} {o : Obj} (o' : Obj) (hl : W.heap[l]? = some o) (ho : o.isCells = false) : KpC W (W.putObj l o') := by
  have hg := grownBy_putObj' W l o'
  exact ⟨hg.size, fun k o2 hk ho2 => (hg.block k (Array.getElem?_eq_some_iff.1 hk).1 (fun e => by cases e; rw [hl] at hk; cases hk; rw [ho] at ho2; cases ho2)).trans hk⟩
theorem KpC.of_grown {W W' : World} {b : Nat} {o : Obj} (h : W.grownBy W' (some b)) (hb : W.heap[b]? = some o) (ho : o.isCells = false) : KpC W W' :=
  ⟨h.size, fun k o2 hk ho2 => (h.block k (Array.getElem?_eq_some_iff.1 hk).1 (fun e => by cases e; rw [hb] at hk; cases hk; rw [ho] at ho2; cases ho2)).trans hk⟩
theorem KpC.set {W W1 : World} (h : KpC W W1) (p : Addr) (hp : W.heap.size ≤ p.block) (v : Value) : KpC W (W1.setCell p v) :=
  ⟨by simpa [World.setCell] using h.size, fun k o hk ho => (Below.heap_setCell W1 p v k (by have := (Array.getElem?_eq_some_iff.1 hk).1; omega)).trans (h.same k o hk ho)⟩
theorem KpC.cell {W W' : World} (h : KpC W W') {a : Addr} {u : Value} (hc : W.cell? a = some u) : W'.cell? a = some u := by
  obtain ⟨o, ho, hcl⟩ := cells_of_cell hc
  exact (World.cell?_of_block ((h.same a.block o ho hcl).trans ho.symm)).trans hc
theorem KpC.blk {W W' : World} (h : KpC W W') {g : Nat} {t : TypeId} {cs : Array Value} (hb : Blk W g t cs) : Blk W' g t cs := Blk.of (h.same g _ hb.heap rfl)
theorem RepI.kpc {w w' : World} {A : Option Addr} {l : List I9} (h : RepI w A l) (hb : KpC w w') : RepI w' A l := fun hne => by
  obtain ⟨b, o, hA, hl, hall⟩ := h hne
  exact ⟨b, o, hA, Nat.lt_of_lt_of_le hl hb.size, fun k x hx j u hu => hb.cell (hall k x hx j u hu)⟩
theorem Ints.kpc {w w' : World} {A : Option Addr} {l : List Int} (h : Ints w A l) (hb : KpC w w') : Ints w' A l := fun hne => by
  obtain ⟨b, o, hA, hl, hall⟩ := h hne
  exact ⟨b, o, hA, Nat.lt_of_lt_of_le hl hb.size, fun k x hx => hb.cell (hall k x hx)⟩
theorem abides_grow {β : Type} {B : Nat} {J : β → World → Prop} (h : AbidesFrom B J) {s : β} {W W' : World} (hs : J s W) (hb : Below W.heap.size W W') : J s W' :=
  h s W W' none hs ⟨hb.os, hb.tape, hb.output, hb.size, fun k hk _ => hb.block k hk⟩ (fun r e => by cases e)

set_option maxRecDepth 100000 in
theorem touches_in (w : World) (n : Nat) (A : Option Addr) (len c : Nat) :
    CallsIn Fence.wide n Try.prog 27 #[.slice A len c] w fun e w' => e = .returned (.func (.func 42) #[] #[.pointer (some ⟨w.heap.size, 0, none⟩)]) ∧ w.alloc (.cells #[.slice A len c] 25) = w' := by
  refine callsIn_wide.2 ?_
  go_enter Try.func27, Try.ntmps27
  go_wp2_with fail
  go_ret
  exact ⟨rfl, rfl⟩

/-- How the iterator ends. -/
def TP (l : List I9) (J Jx : List T3 → World → Prop) (e : Ending) (W' : World) : Prop := (∃ v, e = .returned v) ∧ ((∃ ys, ys = touchL l ∧ J ys W') ∨ (∃ pre, pre <+: touchL l ∧ Jx pre W'))
set_option maxRecDepth 100000 in
set_option maxHeartbeats 3200000 in
theorem touches1_in (n : Nat) (hn : 1 ≤ n) (q Bs : Nat) (A : Option Addr) (l : List I9) (c : Nat) (hll : l.length ≤ 1000000000) (J Jx : List T3 → World → Prop) (W : World) (hJ : AbidesFrom W.heap.size J)
    (hY : ∀ (pre : List T3) (x : T3) (W1 : World), x ∈ touchL l → J pre W1 → pre.length < (touchL l).length → YieldAt Fence.wide (n - 1) Try.prog q #[.agg (T3.arr x)] W1 fun e W' =>
      (e = .returned (.bool true) ∧ J (pre ++ [x]) W' ∧ KpC W1 W') ∨ (e = .returned (.bool false) ∧ Jx (pre ++ [x]) W'))
    (hB : W.cell? ⟨Bs, 0, none⟩ = some (.slice A l.length c)) (hr : RepI W A l) (h0 : J [] W) :
    CallsIn Fence.wide n Try.prog 42 #[.func (.yield q) #[] #[], .pointer (some ⟨Bs, 0, none⟩)] W (TP l J Jx) := by
  have HR := Lib.hid hr
  have HJ := Lib.hid hJ
  clear hr hJ
  refine callsIn_of_wp Try.func42 rfl trivial ?_ rfl
  simp only [Try.ntmps42, List.size_toArray, List.length_cons, List.length_nil, Nat.reduceAdd, Nat.reduceSub, Array.replicate_succ, Array.replicate_zero, List.push_toArray, List.append_toArray, List.nil_append, List.cons_append]
  gi_wp2
  gi_loopw [11] (fun ix wr => ∃ k : Nat, k ≤ l.length ∧ ix = .int .i64 (k : Int) ∧ J (touchL (l.take k)) wr ∧ KpC W wr) (fun ix _ => l.length - (intOf ix).toNat)
  case atStart => exact ⟨0, Nat.zero_le _, rfl, by simpa [touchL, touchFrom] using h0, KpC.refl _⟩
  case round =>
    obtain ⟨k, hk, rfl, hJs, hkp⟩ := hrel
    by_cases hlt : k < l.length
    · obtain ⟨x, hx⟩ : ∃ x, l[k]? = some x := ⟨l[k], List.getElem?_eq_getElem hlt⟩
      obtain ⟨b, o, rfl, hb, hcs⟩ := HR.out (by intro h; rw [h] at hlt; simp at hlt)
      have k0 : (0 : Int) ≤ (k : Int) := by omega
      have k1 : (k : Int) < (l.length : Int) := by omega
      have cc := fun j u hu => hkp.cell (hcs k x hx j u hu)
      have c0 := cc 0 (.int .i64 x.op) rfl
      have c1 := cc 1 (.int .i64 x.op2) rfl
      have c2 := cc 2 (.int .i64 x.ty) rfl
      have c3 := cc 3 (.int .i64 x.d) rfl
      have c4 := cc 4 (.int .i64 x.a) rfl
      have c5 := cc 5 (.int .i64 x.b) rfl
      have c6 := cc 6 (.int .i64 x.n) rfl
      have c7 := cc 7 (.int .i64 x.count) rfl
      have c8 := cc 8 (.int .i64 x.step) rfl
      rw [Nat.add_zero] at c0
      have HX := Lib.hid hx
      have hU := fun W => (callsIn_wide (n := n - 1)).2 (Uses_any W x)
      unfold I9.arr at hU
      have HU := Lib.hid hU
      clear cc hcs hx hU
      have hF10 : Fence.wide.fn 10 := trivial
      gi_wp2_with (gi_at_call 10; refine (HU.out _).mono ?_; rintro e w2 ⟨v, rfl, hown, hb2⟩; obtain ⟨A2, c2', rfl, hints⟩ := Ints.of_own hown)
      have hbw : Below wr.heap.size wr w2 := ((Below.refl _ wr).alloc (Nat.le_refl _) _).trans (hb2.mono (by simp))
      have hJ2 := abides_grow (B := W.heap.size) (J := J) HJ.out hJs hbw
      have hk2 : KpC W w2 := hkp.trans (KpC.of_below hbw)
      have hs0 : W.heap.size ≤ wr.heap.size := hkp.size
      have hwr2 : wr.heap.size ≤ w2.heap.size := hbw.size
      clear hb2 hown hbw hJs c0 c1 c2 c3 c4 c5 c6 c7 c8
      have hrl := readsL_len x
      generalize hrs : readsL x = rs at *
      have HRS := Lib.hid hrs
      clear hrs
      gi_loopw [23] (fun jx wq => ∃ j : Nat, j ≤ rs.length ∧ jx = .int .i64 (j : Int) ∧ J (touchL (l.take k) ++ touchR k (rs.take j)) wq ∧ KpC w2 wq) (fun jx _ => rs.length - (intOf jx).toNat)
      case atStart => exact ⟨0, Nat.zero_le _, rfl, by simpa [touchR] using hJ2, KpC.refl _⟩
      case round =>
        obtain ⟨j, hj, rfl, hJq, hkq⟩ := hrel
        by_cases hjl : j < rs.length
        · obtain ⟨v, hv⟩ : ∃ v, rs[j]? = some v := ⟨rs[j], List.getElem?_eq_getElem hjl⟩
          obtain ⟨b2, o2, rfl, hb2, hall⟩ := hints (by intro h; rw [h] at hjl; simp at hjl)
          have cv := hkq.cell (hall j v hv)
          have j0 : (0 : Int) ≤ (j : Int) := by omega
          have j1 : (j : Int) < (rs.length : Int) := by omega
          have hL := touch_lt HX.out (j := j) (by rw [HRS.out]; exact hjl)
          rw [HRS.out] at hL
          obtain ⟨fn, tmps, assign, body, hy, hR⟩ := hY _ ⟨v, k, false⟩ wr (mem_of_pre (by rw [List.append_assoc, ← touchR_snoc k hv, ← HRS.out]; exact touch_pre1 HX.out)) hJq hL
          dsimp only [T3.arr] at hy
          have HV := Lib.hid hv
          clear hL hall hints hv
          gi_wp2
          refine hR.mono ?_
          rintro e W3 (⟨rfl, hJ3, hk3⟩ | ⟨rfl, hJx3⟩)
          · gi_wp2
            go_roundw
            case rel => exact ⟨j + 1, by omega, by go_num, by rw [touchR_snoc k HV.out, ← List.append_assoc]; exact hJ3, hkq.trans hk3⟩
            case measure => simp [intOf]; omega
          · gi_wp2
            refine bodyPost_ret (results_none rfl _ _ _) rfl ?_
            unfold TP
            refine ⟨⟨_, rfl⟩, .inr ⟨_, ?_, hJx3⟩⟩
            rw [List.append_assoc, ← touchR_snoc k HV.out, ← HRS.out]
            exact touch_pre1 HX.out
        · have hn : ¬ ((j : Int) < (rs.length : Int)) := by omega
          have hje : j = rs.length := by omega
          subst hje
          rw [List.take_length] at hJq
          clear hints
          by_cases hm : 0 ≤ makesL x
          · have hL := touch_lt2 HX.out hm
            rw [HRS.out] at hL
            obtain ⟨fn, tmps, assign, body, hy, hR⟩ := hY _ ⟨makesL x, k, true⟩ wr (mem_of_pre (touch_pre2 HX.out hm)) hJq hL
            dsimp only [T3.arr] at hy
            clear hL
            generalize hmm : makesL x = m at *
            have HM := Lib.hid hmm
            clear hmm
            gi_wp2
            refine hR.mono ?_
            rintro e W3 (⟨rfl, hJ3, hk3⟩ | ⟨rfl, hJx3⟩)
            · gi_wp2
              go_roundw
              case rel =>
                refine ⟨k + 1, by omega, by go_num, ?_, (hk2.trans hkq).trans hk3⟩
                rw [touch_take_succ HX.out, touchI, HRS.out, HM.out, if_pos hm, ← List.append_assoc]
                exact hJ3
              case measure => simp [intOf]; omega
            · gi_wp2
              refine bodyPost_ret (results_none rfl _ _ _) rfl ?_
              unfold TP
              refine ⟨⟨_, rfl⟩, .inr ⟨_, ?_, hJx3⟩⟩
              have hp := touch_pre2 HX.out (by rw [HM.out]; exact hm)
              rw [HRS.out, HM.out] at hp
              exact hp
          · have hm2 : makesL x < 0 := by omega
            have hT := Lib.hid (touch_take_succ HX.out)
            generalize hmm : makesL x = m at *
            have HM := Lib.hid hmm
            clear hmm
            gi_wp2
            refine ⟨fun _ h => (by cases h), ?_⟩
            gi_wp2
            go_roundw
            case rel =>
              refine ⟨k + 1, by omega, by go_num, ?_, hk2.trans hkq⟩
              rw [hT.out, touchI, HRS.out, HM.out, if_neg (by omega), List.append_nil]
              exact hJq
            case measure => simp [intOf]; omega
    · have hn : ¬ ((k : Int) < (l.length : Int)) := by omega
      have hkl : k = l.length := by omega
      subst hkl
      rw [List.take_length] at hJs
      gi_wp2
      go_end0
      unfold TP
      exact ⟨⟨_, rfl⟩, .inl ⟨_, rfl, hJs⟩⟩
/-- A place within the instructions. -/
abbrev TA (l : List I9) := { t : T3 // t ∈ touchL l }
/-- **touches(l) hands back a value that gives all of them, one by one.** -/
theorem touches_stops (n : Nat) (hn : 1 ≤ n) (Bs : Nat) (A : Option Addr) (l : List I9) (c : Nat) (hll : l.length ≤ 1000000000) (w : World) (hBs : Bs < w.heap.size) (hB : w.cell? ⟨Bs, 0, none⟩ = some (.slice A l.length c)) (hr : RepI w A l) :
    SeqStopsK Fence.wide n Try.prog 42 #[.pointer (some ⟨Bs, 0, none⟩)] (fun x : TA l => #[.agg (T3.arr x.1)]) KpC (fun ys => ys.map (·.1) = touchL l) (fun pre => pre.map (·.1) <+: touchL l) (touchL l).length w := fun q J Jx W hW hJ hJx hY h0 => by
  refine (touches1_in n hn q Bs A l c hll (fun ys W => ∃ zs : List (TA l), zs.map (·.1) = ys ∧ J zs W) (fun ys W => ∃ zs : List (TA l), zs.map (·.1) = ys ∧ Jx zs W) W ?_ ?_ ((hW.cell (p := ⟨Bs, 0, none⟩) hBs).trans hB) (hr.far hW) ⟨[], rfl, h0⟩).mono ?_
  · rintro s X Y row ⟨zs, hz, hs⟩ hg hrow
    exact ⟨zs, hz, hJ zs X Y row hs hg hrow⟩
  · rintro pre x W1 hx ⟨zs, rfl, hs⟩ hlen
    obtain ⟨fn, tmps, assign, body, hy, hR⟩ := hY zs ⟨x, hx⟩ W1 hs (by simpa using hlen)
    refine ⟨fn, tmps, assign, body, hy, hR.mono ?_⟩
    rintro e W' (⟨he, hJ3, hk3⟩ | ⟨he, hJx3⟩)
    · exact .inl ⟨he, ⟨_, by simp, hJ3⟩, hk3⟩
    · exact .inr ⟨he, _, by simp, hJx3⟩
  · rintro e W' ⟨hv, ⟨ys, rfl, zs, hz, hs⟩ | ⟨pre, hp, zs, rfl, hs⟩⟩
    · exact ⟨hv, .inl ⟨zs, hz, hs⟩⟩
    · exact ⟨hv, .inr ⟨zs, hp, hs⟩⟩
end Go.Proofs.Ytfmkfmcplffhdaa

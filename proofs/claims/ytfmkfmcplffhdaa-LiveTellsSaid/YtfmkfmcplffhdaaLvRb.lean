/- ploverref19.Begins, reads, most. Conditions: sizes. -/
import Derived.Test.YtfmkfmcplffhdaaLvRa
import Derived.Test.YtfmkfmcplffhdaaLvK2
import Derived.Deep.DeepCutAuto
namespace Go.Proofs.Ytfmkfmcplffhdaa
set_option linter.unusedVariables false
open Go.RowKit
attribute [local irreducible] Blk
set_option maxRecDepth 100000 in
theorem RBegins_any (w : World) (A : Option Addr) (l : List I9) (c : Nat) (st : Int) (hr : RepI w A l) (hll : l.length ≤ 1000000000) :
    Calls Try.prog 14 #[.slice A l.length c, .int .i64 st] w fun e w' => e = .returned (.int .i64 (beginsN l st : Int)) ∧ w' = w := by
  have HR := Lib.hid hr
  clear hr
  go_enter Try.func14, Try.ntmps14
  go_wp2_with fail
  go_loopw [5] (fun ix wr => ∃ k : Nat, k ≤ l.length ∧ ix = .int .i64 (k : Int) ∧ wr = w ∧ Hid (∀ j y, j < k → l[j]? = some y → y.step < st)) (fun ix _ => l.length - (intOf ix).toNat)
  case atStart => exact ⟨0, Nat.zero_le _, rfl, rfl, Lib.hid (fun j y hj => by omega)⟩
  case round =>
    obtain ⟨k, hk, rfl, rfl, hall⟩ := hrel
    by_cases hlt : k < l.length
    · obtain ⟨x, hx⟩ : ∃ x, l[k]? = some x := ⟨l[k], List.getElem?_eq_getElem hlt⟩
      obtain ⟨b, o, rfl, hb, _⟩ := HR.out (by intro h; rw [h] at hlt; simp at hlt)
      have q8 := HR.out.at_cells hx 8 (.int .i64 x.step) rfl
      have k0 : (0 : Int) ≤ (k : Int) := by omega
      have k1 : (k : Int) < (l.length : Int) := by omega
      have HX := Lib.hid hx
      clear hx
      by_cases hs : st ≤ x.step
      · go_wp2_with fail
        go_ret
        rw [beginsN_at HX.out hs hall.out]
        exact ⟨rfl, rfl⟩
      · go_wp2_with fail
        refine ⟨⟨k + 1, by omega, rfl, trivial, Lib.hid (fun j y hj hy => ?_)⟩, by simp [intOf]; omega⟩
        by_cases hjk : j = k
        · subst hjk
          have := Option.some.inj (hy.symm.trans HX.out)
          subst this
          omega
        · exact hall.out j y (by omega) hy
    · have hn : ¬ ((k : Int) < (l.length : Int)) := by omega
      have hkl : k = l.length := by omega
      subst hkl
      go_wp2_with fail
      go_ret
      rw [beginsN_none (fun j y hy => hall.out j y (List.getElem?_eq_some_iff.1 hy).1 hy)]
      exact ⟨rfl, rfl⟩
/-- Is it among the numbers? -/
theorem mem_take_succ {rs : List Int} {k : Nat} {x v : Int} (h : rs[k]? = some x) : v ∈ rs.take (k + 1) ↔ v ∈ rs.take k ∨ x = v := by
  rw [take_snoc' h]
  simp [eq_comm]
set_option maxRecDepth 100000 in
set_option maxHeartbeats 3200000 in
theorem rreads_any (w : World) (i : I9) (v : Int) : Calls Try.prog 46 #[.agg i.arr, .int .i64 v] w fun e w' => e = .returned (.bool (decide (v ∈ readsL i))) ∧ Below w.heap.size w w' := by
  have HRD := Lib.hid (fun W => Reads_any W i)
  have HB := Lib.hid ((Below.refl w.heap.size w).alloc (Nat.le_refl _) (.cells i.arr 33))
  have hI := Blk.new w 33 i.arr
  have hlen := readsL_len i
  unfold I9.arr at *
  generalize readsL i = rs at *
  go_enter Try.func46, Try.ntmps46
  go_wp2_with (go_at_call 11; refine (HRD.out _).mono ?_; rintro e w1 ⟨v1, rfl, hown1, hb1⟩; obtain ⟨A1, c1, rfl, hints⟩ := Ints.of_own hown1; have HB1 := Lib.hid (HB.out.trans (hb1.mono HB.out.size)); clear hown1 hb1)
  go_loopw [6] (fun ix wr => ∃ k : Nat, k ≤ rs.length ∧ ix = .int .i64 (k : Int) ∧ wr = w1 ∧ v ∉ rs.take k) (fun ix _ => rs.length - (intOf ix).toNat)
  case atStart => exact ⟨0, Nat.zero_le _, rfl, rfl, by simp⟩
  case round =>
    obtain ⟨k, hk, rfl, rfl, hno⟩ := hrel
    have HNO := Lib.hid hno
    clear hno
    by_cases hlt : k < rs.length
    · obtain ⟨x, hx⟩ : ∃ x, rs[k]? = some x := ⟨rs[k], List.getElem?_eq_getElem hlt⟩
      obtain ⟨b, o, rfl, hb, hall⟩ := hints (by intro h; rw [h] at hlt; simp at hlt)
      have q := hall k x hx
      have k0 : (0 : Int) ≤ (k : Int) := by omega
      have k1 : (k : Int) < (rs.length : Int) := by omega
      have HX := Lib.hid hx
      clear hall hints hx
      by_cases hs : x = v
      · have HM := Lib.hid (show decide (v ∈ rs) = true from decide_eq_true (by rw [← hs]; exact List.mem_of_getElem? HX.out))
        subst hs
        go_wp2_with fail
        go_ret
        rw [HM.out]
        exact ⟨rfl, HB1.out⟩
      · go_wp2_with fail
        refine ⟨⟨k + 1, by omega, rfl, trivial, ?_⟩, by simp [intOf]; omega⟩
        rw [mem_take_succ HX.out]
        rintro (h | h)
        · exact HNO.out h
        · exact hs h
    · have hn : ¬ ((k : Int) < (rs.length : Int)) := by omega
      have hkl : k = rs.length := by omega
      subst hkl
      have HM := Lib.hid (show decide (v ∈ rs) = false from decide_eq_false (by have := HNO.out; rwa [List.take_length] at this))
      go_wp2_with fail
      go_ret
      rw [HM.out]
      exact ⟨rfl, HB1.out⟩
def mostR (n : Int) (rs : List Int) : Int := rs.foldl max n
def mostI (n : Int) (i : I9) : Int := mostR (max n (makesL i)) (readsL i)
def mostTo (l : List I9) (p : Nat) : Int := (l.take p).foldl mostI (-1)
def mostL (l : List I9) : Int := l.foldl mostI (-1)
theorem mostTo_succ {l : List I9} {p : Nat} {x : I9} (h : l[p]? = some x) : mostTo l (p + 1) = mostI (mostTo l p) x := by
  unfold mostTo
  rw [take_snoc' h, List.foldl_append]
  rfl
theorem mostR_succ {n : Int} {rs : List Int} {k : Nat} {x : Int} (h : rs[k]? = some x) : mostR n (rs.take (k + 1)) = max (mostR n (rs.take k)) x := by
  unfold mostR
  rw [take_snoc' h, List.foldl_append]
  rfl
theorem max_lit (ats : Array TypeId) (ty : TypeId) (a d : Int) : Builtin.max_ ats ty #[.int .i64 a, .int .i64 d] = pure (.int .i64 (max a d)) := by
  rw [Int.max_def]
  have h : Builtin.max_ ats ty #[.int .i64 a, .int .i64 d] = pure (.int .i64 (if a < d then d else a)) := rfl
  rw [h]
  by_cases h1 : a < d
  · rw [if_pos h1, if_pos (by omega)]
  · rw [if_neg h1]
    by_cases h2 : a ≤ d
    · rw [if_pos h2]
      congr 2
      omega
    · rw [if_neg h2]
set_option maxRecDepth 100000 in
set_option maxHeartbeats 3200000 in
theorem most_any (w : World) (A : Option Addr) (l : List I9) (c : Nat) (hr : RepI w A l) (hll : l.length ≤ 1000000000) :
    Calls Try.prog 32 #[.slice A l.length c] w fun e w' => e = .returned (.int .i64 (mostL l)) ∧ Below w.heap.size w w' := by
  have HR := Lib.hid hr
  have HMM := Lib.hid max_lit
  have HT := Lib.hid (show mostTo l l.length = mostL l by unfold mostTo mostL; rw [List.take_length])
  clear hr
  go_enter Try.func32, Try.ntmps32
  go_wp2_with fail
  go_loopw [3, 4] (fun nx ix wr => ∃ k : Nat, k ≤ l.length ∧ ix = .int .i64 (k : Int) ∧ nx = .int .i64 (mostTo l k) ∧ Below w.heap.size w wr) (fun _ ix _ => l.length - (intOf ix).toNat)
  case atStart => exact ⟨0, Nat.zero_le _, rfl, rfl, Below.refl _ _⟩
  case round =>
    obtain ⟨k, hk, rfl, rfl, hbr⟩ := hrel
    have hbs := hbr.size
    by_cases hlt : k < l.length
    · obtain ⟨x, hx⟩ : ∃ x, l[k]? = some x := ⟨l[k], List.getElem?_eq_getElem hlt⟩
      obtain ⟨b, o, rfl, hb, _⟩ := HR.out (by intro h; rw [h] at hlt; simp at hlt)
      have hbw : b < wr.heap.size := by omega
      have hRr := HR.out.far hbr
      have cc := hRr.at_cells hx
      have q0 := cc 0 (.int .i64 x.op) rfl
      have q1 := cc 1 (.int .i64 x.op2) rfl
      have q2 := cc 2 (.int .i64 x.ty) rfl
      have q3 := cc 3 (.int .i64 x.d) rfl
      have q4 := cc 4 (.int .i64 x.a) rfl
      have q5 := cc 5 (.int .i64 x.b) rfl
      have q6 := cc 6 (.int .i64 x.n) rfl
      have q7 := cc 7 (.int .i64 x.count) rfl
      have q8 := cc 8 (.int .i64 x.step) rfl
      rw [Nat.add_zero] at q0
      have k0 : (0 : Int) ≤ (k : Int) := by omega
      have k1 : (k : Int) < (l.length : Int) := by omega
      have hMk := fun W => Makes_below W x
      have hRd := fun W => Reads_any W x
      unfold I9.arr at hMk hRd
      have HMk := Lib.hid hMk
      have HRd := Lib.hid hRd
      have HN := Lib.hid (mostTo_succ hx)
      have hrl := readsL_len x
      have hmax := HMM.out #[3, 3] 3 (mostTo l k) (makesL x)
      have HNI := Lib.hid (show mostI (mostTo l k) x = mostR (max (mostTo l k) (makesL x)) (readsL x) from rfl)
      have HRR := Lib.hid hRr
      clear cc hMk hRd hx hRr
      generalize readsL x = rs at *
      generalize makesL x = mk at *
      generalize mostTo l k = n0 at *
      generalize max n0 mk = n1 at *
      go_upto_region 7 with (first
        | (go_at_call 12; go_loud (refine (HMk.out _).mono ?_; rintro e w2 ⟨rfl, hb2⟩; have HB2 := Lib.hid (hbr.trans (hb2.mono hbs)); have d0 := (hb2.cell (p := ⟨b, o + k * 9, none⟩) hbw).trans q0; have d1 := (hb2.cell (p := ⟨b, o + k * 9 + 1, none⟩) hbw).trans q1; have d2 := (hb2.cell (p := ⟨b, o + k * 9 + 2, none⟩) hbw).trans q2; have d3 := (hb2.cell (p := ⟨b, o + k * 9 + 3, none⟩) hbw).trans q3; have d4 := (hb2.cell (p := ⟨b, o + k * 9 + 4, none⟩) hbw).trans q4; have d5 := (hb2.cell (p := ⟨b, o + k * 9 + 5, none⟩) hbw).trans q5; have d6 := (hb2.cell (p := ⟨b, o + k * 9 + 6, none⟩) hbw).trans q6; have d7 := (hb2.cell (p := ⟨b, o + k * 9 + 7, none⟩) hbw).trans q7; have d8 := (hb2.cell (p := ⟨b, o + k * 9 + 8, none⟩) hbw).trans q8; clear hb2))
        | (go_at_call 11; refine (HRd.out _).mono ?_; rintro e w3 ⟨v3, rfl, hown3, hb3⟩; obtain ⟨A3, c3, rfl, hints⟩ := Ints.of_own hown3; have HB3 := Lib.hid (HB2.out.trans (hb3.mono HB2.out.size)); clear hown3 hb3))
      clear q0 q1 q2 q3 q4 q5 q6 q7 q8 d0 d1 d2 d3 d4 d5 d6 d7 d8 hmax hbr
      go_wp2_with fail
      go_loopw [3, 6] (fun nx ix wx => ∃ kk : Nat, kk ≤ rs.length ∧ ix = .int .i64 (kk : Int) ∧ nx = .int .i64 (mostR n1 (rs.take kk)) ∧ wx = w3) (fun _ ix _ => rs.length - (intOf ix).toNat)
      case atStart => exact ⟨0, Nat.zero_le _, rfl, rfl, rfl⟩
      case round =>
        obtain ⟨kk, hkk, rfl, rfl, rfl⟩ := hrel
        by_cases hlt2 : kk < rs.length
        · obtain ⟨y, hy⟩ : ∃ y, rs[kk]? = some y := ⟨rs[kk], List.getElem?_eq_getElem hlt2⟩
          obtain ⟨b2, o2, rfl, hb2, hall⟩ := hints (by intro h; rw [h] at hlt2; simp at hlt2)
          have q := hall kk y hy
          have j0 : (0 : Int) ≤ (kk : Int) := by omega
          have j1 : (kk : Int) < (rs.length : Int) := by omega
          have HY := Lib.hid (mostR_succ (n := n1) hy)
          have hmax := HMM.out #[3, 3] 3 (mostR n1 (rs.take kk)) y
          clear hall hints hy
          generalize mostR n1 (rs.take kk) = n2 at *
          go_wp2_with fail
          refine ⟨⟨kk + 1, by omega, rfl, ?_, trivial⟩, by simp [intOf]; omega⟩
          rw [HY.out]
        · have hn : ¬ ((kk : Int) < (rs.length : Int)) := by omega
          have hkl : kk = rs.length := by omega
          subst hkl
          rw [List.take_length]
          generalize hn3 : mostR n1 rs = n3 at *
          go_wp2_with fail
          refine ⟨⟨k + 1, by omega, rfl, ?_, HB3.out⟩, by simp [intOf]; omega⟩
          rw [HN.out, HNI.out]
    · have hn : ¬ ((k : Int) < (l.length : Int)) := by omega
      have hkl : k = l.length := by omega
      subst hkl
      go_wp2_with fail
      go_ret
      rw [HT.out]
      exact ⟨rfl, hbr⟩
end Go.Proofs.Ytfmkfmcplffhdaa
